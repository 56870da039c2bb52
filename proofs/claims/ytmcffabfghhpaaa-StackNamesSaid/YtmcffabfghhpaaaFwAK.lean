/- Plain words: a stack's Push and Pop, in any company. No condition. -/
import Derived.Test.YtmcffabfghhpaaaFwAJ
import Derived.OwnWalk
import Derived.LoopTactic
import Derived.Test.YtmcffabfghhpaaaFwAF
import Derived.Test.YtmcffabfghhpaaaProg
import Derived.Handy
set_option linter.unusedVariables false
set_option linter.unusedSimpArgs false
/- Plain words: a stack's Push and Pop, in any company. No condition. -/
namespace Go.Proofs.Ytmcffabfghhpaaa
open Go.Conc Go.RowKit
section
variable {E : Env} {n : E.ι} {w : World}
theorem ret3E (O : E.Ok) (hP : E.P = Try.prog) {fn : Func} {t : Array Value} {i j k : Nat} {w : World} {v : Value} (h : fn.results = #[.tmp i, .tmp j, .tmp k]) (hi : (.tuple #[t.getD i undef, t.getD j undef, t.getD k undef] : Value) = v) : ∀ w₁, E.R w w₁ → ∃ es, (results fn t).runT E.P w₁ #[] = (.ok v w₁, es) ∧ E.D n w₁ w₁ es := fun w₁ _ => ⟨#[], by
  rw [hP, Sem.runT_eq, results_tmp3 (t := i) (u := j) (v := k) h, ← hi]
  simp [results, h], O.still _ _⟩
end
section
variable {S N n : Nat} (Γ : Gated (stkJob S N n))
theorem exec_vst {j v : Nat} {a : SSt} : (SPos.vst j v).exec a = ({ a with m := a.m.set (2 * j + 1) v }, .inl (.g1 0 j .push)) := rfl
theorem exec_vld {j : Nat} {a : SSt} : (SPos.vld j).exec a = (a, .inl (.g1 1 j (.pop (a.m.getD (2 * j + 1) 0)))) := rfl
set_option maxRecDepth 100000 in
set_option maxHeartbeats 4000000 in
/-- A push. -/
theorem push_e {x : Nat} (hx : x < 18446744073709551616) {m : Γ.E.ι} {k : Nat} {a : SSt} {w : World} (h : Γ.At m k a (a, .inl (.t1 1 (.push x))) w) {Q : Γ.E.ι → Value → World → Prop}
    (hq0 : ∀ m' k' a' w', k' < k → Γ.At m' k' a' (a', .inr (.none (.push x))) w' → Q m' (.tuple #[.bool false, .int .i64 0]) w')
    (hq1 : ∀ m' k' a' w', k' < k → Γ.At m' k' a' (a', .inr (.done .push)) w' → Q m' (.tuple #[.bool true, .int .i64 0]) w') :
    cpsC Γ.E 13 #[.pointer (some ⟨S, 0, none⟩), Γ.gate, .int .u64 x] Q m w := by
  have O := Γ.ok
  have hn : n ≤ 1024 := by
    obtain ⟨u0, hu0⟩ := Γ.rep _ _ _ _ _ h
    have hu0 : SRep S N n a u0 := hu0
    exact hu0.stk.le
  refine cpsC_body O (by rw [Γ.P]; exact Try.func13) rfl ?_
  simp only [Try.ntmps13]
  refine cps_opaque fun Q' hQ => ?_
  have Hq0 := Lib.hid hq0
  have Hq1 := Lib.hid hq1
  clear hq0 hq1
  walk_nrm
  repeat refine cps_seq O ?_
  (refine cps_region O ?_; simp only [List.size_toArray, List.length_cons, List.length_nil, Nat.reduceAdd, Nat.zero_add, List.range, List.range.loop])
  refine valE O Γ.P (.bool false) rfl rfl (fun _ => by simp [go_sem]) (fun _ => by go_simp; try (first | rfl | (simp [*]))) ?_; try walk_nrm
  refine valE O Γ.P (.int .i64 0) rfl rfl (fun _ => by simp [go_sem]) (fun _ => by go_simp; try (first | rfl | (simp [*]))) ?_; try walk_nrm
  refine cpsR_nil O ?_
  show cps _ _ _ _ _ _
  repeat refine cps_seq O ?_
  refine Gated.alone_n Γ h (by kernel_rfl) fun u hu => ?_
  have hnn := none_c S _ N n (by rfl) hu.stk.pos u hu.stk.rS
  have Hu := Lib.hid hu
  clear hu
  go_wp2_with fail
  refine hnn.mono ?_
  rintro e u1 ⟨rfl, rfl⟩
  go_wp2
  refine ⟨rfl, a, Hu.out, Sm.refl _ _, fun w3 h3 => ?_⟩
  clear hnn Hu h
  show cps _ _ _ _ _ _
  refine cps_cond O (v := false) rfl ?_
  simp only [Bool.false_eq_true, if_false]
  refine cps_skip O ?_
  show cps _ _ _ _ _ _
  repeat refine cps_seq O ?_
  (refine cps_region O ?_; simp only [List.size_toArray, List.length_cons, List.length_nil, Nat.reduceAdd, Nat.zero_add, List.range, List.range.loop])
  refine valE O Γ.P (.pointer (some ⟨S, 0, none⟩)) rfl rfl (fun _ => by simp [go_sem]) (fun _ => by go_simp; try (first | rfl | (simp [*]))) ?_; try walk_nrm
  refine valE O Γ.P (Γ.gate) rfl rfl (fun _ => by simp [go_sem]) (fun _ => by go_simp; try (first | rfl | (simp [*]))) ?_; try walk_nrm
  refine callE O Γ.P (f := 44) (vals := #[.pointer (some ⟨S, 0, none⟩), Γ.gate, .int .i64 1]) rfl rfl rfl Try.func44 rfl rfl rfl ?_
  refine take_e Γ (i := 1) (by omega) h3 (fun m4 k4 a4 w4 hk4 h4 => ?_) (fun m4 k4 a4 w4 j hk4 hj h4 => ?_)
  · clear h3
    try walk_nrm
    refine valE O Γ.P (.tuple #[.int .u64 0, .bool false]) rfl rfl (fun _ => by simp [go_sem]) (fun _ => by go_simp; try (first | rfl | (simp [*]))) ?_; try walk_nrm
    refine valE O Γ.P (.int .u64 0) rfl rfl (fun _ => by simp [go_sem]) (fun _ => by go_simp; try (first | rfl | (simp [*]))) ?_; try walk_nrm
    refine valE O Γ.P (.bool false) rfl rfl (fun _ => by simp [go_sem]) (fun _ => by go_simp; try (first | rfl | (simp [*]))) ?_; try walk_nrm
    refine valE O Γ.P (.int .u64 0) rfl rfl (fun _ => by simp [go_sem]) (fun _ => by go_simp; try (first | rfl | (simp [*]))) ?_; try walk_nrm
    refine valE O Γ.P (.bool false) rfl rfl (fun _ => by simp [go_sem]) (fun _ => by go_simp; try (first | rfl | (simp [*]))) ?_; try walk_nrm
    refine cpsR_nil O ?_
    show cps _ _ _ _ _ _
    repeat refine cps_seq O ?_
    (refine cps_region O ?_; simp only [List.size_toArray, List.length_cons, List.length_nil, Nat.reduceAdd, Nat.zero_add, List.range, List.range.loop])
    refine valE O Γ.P (.bool false) rfl rfl (fun _ => by simp [go_sem]) (fun _ => by go_simp; try (first | rfl | (simp [*]))) ?_; try walk_nrm
    refine valE O Γ.P (.bool true) rfl rfl (fun _ => by simp [go_sem]) (fun _ => by go_simp; try (first | rfl | (simp [*]))) ?_; try walk_nrm
    refine cpsR_nil O ?_
    show cps _ _ _ _ _ _
    refine cps_cond O (v := true) rfl ?_
    simp only [if_true]
    repeat refine cps_seq O ?_
    (refine cps_region O ?_; simp only [List.size_toArray, List.length_cons, List.length_nil, Nat.reduceAdd, Nat.zero_add, List.range, List.range.loop])
    refine valE O Γ.P (.bool false) rfl rfl (fun _ => by simp [go_sem]) (fun _ => by go_simp; try (first | rfl | (simp [*]))) ?_; try walk_nrm
    refine valE O Γ.P (.int .i64 0) rfl rfl (fun _ => by simp [go_sem]) (fun _ => by go_simp; try (first | rfl | (simp [*]))) ?_; try walk_nrm
    refine cpsR_nil O ?_
    exact cps_ret O (hQ _ _ _ _ ⟨.inr rfl, .tuple #[.bool false, .int .i64 0], ret2E O Γ.P rfl rfl, Hq0.out _ _ _ _ hk4 h4⟩)
  · clear h3
    have h4 : Γ.At m4 k4 a4 (a4, .inl (.vst j x)) w4 := h4
    try walk_nrm
    refine valE O Γ.P (.tuple #[.int .u64 j, .bool true]) rfl rfl (fun _ => by simp [go_sem]) (fun _ => by go_simp; try (first | rfl | (simp [*]))) ?_; try walk_nrm
    refine valE O Γ.P (.int .u64 j) rfl rfl (fun _ => by simp [go_sem]) (fun _ => by go_simp; try (first | rfl | (simp [*]))) ?_; try walk_nrm
    refine valE O Γ.P (.bool true) rfl rfl (fun _ => by simp [go_sem]) (fun _ => by go_simp; try (first | rfl | (simp [*]))) ?_; try walk_nrm
    refine valE O Γ.P (.int .u64 j) rfl rfl (fun _ => by simp [go_sem]) (fun _ => by go_simp; try (first | rfl | (simp [*]))) ?_; try walk_nrm
    refine valE O Γ.P (.bool true) rfl rfl (fun _ => by simp [go_sem]) (fun _ => by go_simp; try (first | rfl | (simp [*]))) ?_; try walk_nrm
    refine cpsR_nil O ?_
    show cps _ _ _ _ _ _
    repeat refine cps_seq O ?_
    (refine cps_region O ?_; simp only [List.size_toArray, List.length_cons, List.length_nil, Nat.reduceAdd, Nat.zero_add, List.range, List.range.loop])
    refine valE O Γ.P (.bool true) rfl rfl (fun _ => by simp [go_sem]) (fun _ => by go_simp; try (first | rfl | (simp [*]))) ?_; try walk_nrm
    refine valE O Γ.P (.bool false) rfl rfl (fun _ => by simp [go_sem]) (fun _ => by go_simp; try (first | rfl | (simp [*]))) ?_; try walk_nrm
    refine cpsR_nil O ?_
    show cps _ _ _ _ _ _
    refine cps_cond O (v := false) rfl ?_
    simp only [Bool.false_eq_true, if_false]
    refine cps_skip O ?_
    show cps _ _ _ _ _ _
    repeat refine cps_seq O ?_
    (refine cps_region O ?_; simp only [List.size_toArray, List.length_cons, List.length_nil, Nat.reduceAdd, Nat.zero_add, List.range, List.range.loop])
    refine valE O Γ.P (Γ.gate) rfl rfl (fun _ => by simp [go_sem]) (fun _ => by go_simp; try (first | rfl | (simp [*]))) ?_; try walk_nrm
    refine valE O Γ.P (.int .u64 j) rfl rfl (fun _ => by simp [go_sem]) (fun _ => by go_simp; try (first | rfl | (simp [*]))) ?_; try walk_nrm
    refine callE O Γ.P (f := 46) (vals := #[.int .u64 j]) rfl rfl rfl Try.func46 rfl rfl rfl (valueWord_e O Γ.P j (by omega) ?_)
    try walk_nrm
    refine callE O Γ.P (f := 45) (vals := #[Γ.gate, .int .u8 2, .int .i64 (3 + 2 * (j : Int))]) rfl rfl rfl Try.func45 rfl rfl rfl ?_
    refine cpsC.mono (Γ.step h4) ?_
    rintro m6 v w6 ⟨rfl, k6, a6, hk6, h6⟩
    have hxx : (stkJob S N n).exec (.vst j x) a6 = ({ a6 with m := List.set (SSt.m a6) (2 * j + 1) x }, .inl (.g1 0 j .push)) := exec_vst
    rw [hxx] at h6
    clear h4 hxx
    try walk_nrm
    refine cpsR_nil O ?_
    show cps _ _ _ _ _ _
    repeat refine cps_seq O ?_
    refine Gated.alone_n Γ h6 (by kernel_rfl) fun u hu => ?_
    have hcn := hu.nodes
    have hcw2 : ∃ x, u.cell? ⟨N, j * 2 + 1, none⟩ = some x := ⟨_, by rw [Nat.mul_comm]; exact hu.word (j := 2 * j + 1) (by omega)⟩
    obtain ⟨x4, hcw2⟩ := hcw2
    have hf2 : u.frozen? ⟨N, j * 2 + 1, none⟩ = false := hu.stk.rN.free _
    have Hu := Lib.hid hu
    clear hu
    have hjn2 : decide (j < n) = true := by simpa using hj
    go_wp2_with fail
    refine (astore _ _ _ _ hcw2 hf2).mono ?_
    rintro e u1 ⟨rfl, rfl⟩
    go_wp2
    refine ⟨rfl, { a6 with m := List.set (SSt.m a6) (2 * j + 1) x }, ?_, (Sm.refl _ _).setCell (.inr rfl) _, fun w7 h7 => ?_⟩
    · have := Hu.out.setWord (x := 2 * j + 1) (v := x) (by omega) hx (by omega)
      rw [Nat.mul_comm 2 j] at this ⊢
      exact this
    clear hcn hcw2 h6 hf2 Hu
    show cps _ _ _ _ _ _
    repeat refine cps_seq O ?_
    (refine cps_region O ?_; simp only [List.size_toArray, List.length_cons, List.length_nil, Nat.reduceAdd, Nat.zero_add, List.range, List.range.loop])
    refine valE O Γ.P (.pointer (some ⟨S, 0, none⟩)) rfl rfl (fun _ => by simp [go_sem]) (fun _ => by go_simp; try (first | rfl | (simp [*]))) ?_; try walk_nrm
    refine valE O Γ.P (Γ.gate) rfl rfl (fun _ => by simp [go_sem]) (fun _ => by go_simp; try (first | rfl | (simp [*]))) ?_; try walk_nrm
    refine valE O Γ.P (.int .u64 j) rfl rfl (fun _ => by simp [go_sem]) (fun _ => by go_simp; try (first | rfl | (simp [*]))) ?_; try walk_nrm
    refine callE O Γ.P (f := 47) (vals := #[.pointer (some ⟨S, 0, none⟩), Γ.gate, .int .i64 0, .int .u64 j]) rfl rfl rfl Try.func47 rfl rfl rfl ?_
    refine give_e Γ (i := 0) (by omega) hj h7 (fun m8 k8 a8 w8 hk8 h8 => ?_)
    clear h7
    try walk_nrm
    refine cpsR_nil O ?_
    show cps _ _ _ _ _ _
    repeat refine cps_seq O ?_
    (refine cps_region O ?_; simp only [List.size_toArray, List.length_cons, List.length_nil, Nat.reduceAdd, Nat.zero_add, List.range, List.range.loop])
    refine valE O Γ.P (.bool true) rfl rfl (fun _ => by simp [go_sem]) (fun _ => by go_simp; try (first | rfl | (simp [*]))) ?_; try walk_nrm
    refine valE O Γ.P (.int .i64 0) rfl rfl (fun _ => by simp [go_sem]) (fun _ => by go_simp; try (first | rfl | (simp [*]))) ?_; try walk_nrm
    refine cpsR_nil O ?_
    exact cps_ret O (hQ _ _ _ _ ⟨.inr rfl, .tuple #[.bool true, .int .i64 0], ret2E O Γ.P rfl rfl, Hq1.out _ _ _ _ (by omega) h8⟩)
set_option maxRecDepth 100000 in
set_option maxHeartbeats 4000000 in
/-- A pop. -/
theorem pop_e {m : Γ.E.ι} {k : Nat} {a : SSt} {w : World} (h : Γ.At m k a (a, .inl (.t1 0 .pop)) w) {Q : Γ.E.ι → Value → World → Prop}
    (hq0 : ∀ m' k' a' w', k' < k → Γ.At m' k' a' (a', .inr (.none .pop)) w' → Q m' (.tuple #[.int .u64 0, .bool false, .int .i64 0]) w')
    (hq1 : ∀ m' k' a' w' (x : Nat), k' < k → x < 18446744073709551616 → Γ.At m' k' a' (a', .inr (.done (.pop x))) w' → Q m' (.tuple #[.int .u64 x, .bool true, .int .i64 0]) w') :
    cpsC Γ.E 14 #[.pointer (some ⟨S, 0, none⟩), Γ.gate] Q m w := by
  have O := Γ.ok
  have hn : n ≤ 1024 := by
    obtain ⟨u0, hu0⟩ := Γ.rep _ _ _ _ _ h
    have hu0 : SRep S N n a u0 := hu0
    exact hu0.stk.le
  refine cpsC_body O (by rw [Γ.P]; exact Try.func14) rfl ?_
  simp only [Try.ntmps14]
  refine cps_opaque fun Q' hQ => ?_
  have Hq0 := Lib.hid hq0
  have Hq1 := Lib.hid hq1
  clear hq0 hq1
  walk_nrm
  repeat refine cps_seq O ?_
  (refine cps_region O ?_; simp only [List.size_toArray, List.length_cons, List.length_nil, Nat.reduceAdd, Nat.zero_add, List.range, List.range.loop])
  refine valE O Γ.P (.int .u64 0) rfl rfl (fun _ => by simp [go_sem]) (fun _ => by go_simp; try (first | rfl | (simp [*]))) ?_; try walk_nrm
  refine valE O Γ.P (.bool false) rfl rfl (fun _ => by simp [go_sem]) (fun _ => by go_simp; try (first | rfl | (simp [*]))) ?_; try walk_nrm
  refine valE O Γ.P (.int .i64 0) rfl rfl (fun _ => by simp [go_sem]) (fun _ => by go_simp; try (first | rfl | (simp [*]))) ?_; try walk_nrm
  refine cpsR_nil O ?_
  show cps _ _ _ _ _ _
  repeat refine cps_seq O ?_
  refine Gated.alone_n Γ h (by kernel_rfl) fun u hu => ?_
  have hnn := none_c S _ N n (by rfl) hu.stk.pos u hu.stk.rS
  have Hu := Lib.hid hu
  clear hu
  go_wp2_with fail
  refine hnn.mono ?_
  rintro e u1 ⟨rfl, rfl⟩
  go_wp2
  refine ⟨rfl, a, Hu.out, Sm.refl _ _, fun w3 h3 => ?_⟩
  clear hnn Hu h
  show cps _ _ _ _ _ _
  refine cps_cond O (v := false) rfl ?_
  simp only [Bool.false_eq_true, if_false]
  refine cps_skip O ?_
  show cps _ _ _ _ _ _
  repeat refine cps_seq O ?_
  (refine cps_region O ?_; simp only [List.size_toArray, List.length_cons, List.length_nil, Nat.reduceAdd, Nat.zero_add, List.range, List.range.loop])
  refine valE O Γ.P (.pointer (some ⟨S, 0, none⟩)) rfl rfl (fun _ => by simp [go_sem]) (fun _ => by go_simp; try (first | rfl | (simp [*]))) ?_; try walk_nrm
  refine valE O Γ.P (Γ.gate) rfl rfl (fun _ => by simp [go_sem]) (fun _ => by go_simp; try (first | rfl | (simp [*]))) ?_; try walk_nrm
  refine callE O Γ.P (f := 44) (vals := #[.pointer (some ⟨S, 0, none⟩), Γ.gate, .int .i64 0]) rfl rfl rfl Try.func44 rfl rfl rfl ?_
  refine take_e Γ (i := 0) (by omega) h3 (fun m4 k4 a4 w4 hk4 h4 => ?_) (fun m4 k4 a4 w4 j hk4 hj h4 => ?_)
  · clear h3
    try walk_nrm
    refine valE O Γ.P (.tuple #[.int .u64 0, .bool false]) rfl rfl (fun _ => by simp [go_sem]) (fun _ => by go_simp; try (first | rfl | (simp [*]))) ?_; try walk_nrm
    refine valE O Γ.P (.int .u64 0) rfl rfl (fun _ => by simp [go_sem]) (fun _ => by go_simp; try (first | rfl | (simp [*]))) ?_; try walk_nrm
    refine valE O Γ.P (.bool false) rfl rfl (fun _ => by simp [go_sem]) (fun _ => by go_simp; try (first | rfl | (simp [*]))) ?_; try walk_nrm
    refine valE O Γ.P (.int .u64 0) rfl rfl (fun _ => by simp [go_sem]) (fun _ => by go_simp; try (first | rfl | (simp [*]))) ?_; try walk_nrm
    refine valE O Γ.P (.bool false) rfl rfl (fun _ => by simp [go_sem]) (fun _ => by go_simp; try (first | rfl | (simp [*]))) ?_; try walk_nrm
    refine cpsR_nil O ?_
    show cps _ _ _ _ _ _
    repeat refine cps_seq O ?_
    (refine cps_region O ?_; simp only [List.size_toArray, List.length_cons, List.length_nil, Nat.reduceAdd, Nat.zero_add, List.range, List.range.loop])
    refine valE O Γ.P (.bool false) rfl rfl (fun _ => by simp [go_sem]) (fun _ => by go_simp; try (first | rfl | (simp [*]))) ?_; try walk_nrm
    refine valE O Γ.P (.bool true) rfl rfl (fun _ => by simp [go_sem]) (fun _ => by go_simp; try (first | rfl | (simp [*]))) ?_; try walk_nrm
    refine cpsR_nil O ?_
    show cps _ _ _ _ _ _
    refine cps_cond O (v := true) rfl ?_
    simp only [if_true]
    repeat refine cps_seq O ?_
    (refine cps_region O ?_; simp only [List.size_toArray, List.length_cons, List.length_nil, Nat.reduceAdd, Nat.zero_add, List.range, List.range.loop])
    refine valE O Γ.P (.int .u64 0) rfl rfl (fun _ => by simp [go_sem]) (fun _ => by go_simp; try (first | rfl | (simp [*]))) ?_; try walk_nrm
    refine valE O Γ.P (.bool false) rfl rfl (fun _ => by simp [go_sem]) (fun _ => by go_simp; try (first | rfl | (simp [*]))) ?_; try walk_nrm
    refine valE O Γ.P (.int .i64 0) rfl rfl (fun _ => by simp [go_sem]) (fun _ => by go_simp; try (first | rfl | (simp [*]))) ?_; try walk_nrm
    refine cpsR_nil O ?_
    exact cps_ret O (hQ _ _ _ _ ⟨.inr rfl, .tuple #[.int .u64 0, .bool false, .int .i64 0], ret3E O Γ.P rfl rfl, Hq0.out _ _ _ _ hk4 h4⟩)
  · clear h3
    have h4 : Γ.At m4 k4 a4 (a4, .inl (.vld j)) w4 := h4
    try walk_nrm
    refine valE O Γ.P (.tuple #[.int .u64 j, .bool true]) rfl rfl (fun _ => by simp [go_sem]) (fun _ => by go_simp; try (first | rfl | (simp [*]))) ?_; try walk_nrm
    refine valE O Γ.P (.int .u64 j) rfl rfl (fun _ => by simp [go_sem]) (fun _ => by go_simp; try (first | rfl | (simp [*]))) ?_; try walk_nrm
    refine valE O Γ.P (.bool true) rfl rfl (fun _ => by simp [go_sem]) (fun _ => by go_simp; try (first | rfl | (simp [*]))) ?_; try walk_nrm
    refine valE O Γ.P (.int .u64 j) rfl rfl (fun _ => by simp [go_sem]) (fun _ => by go_simp; try (first | rfl | (simp [*]))) ?_; try walk_nrm
    refine valE O Γ.P (.bool true) rfl rfl (fun _ => by simp [go_sem]) (fun _ => by go_simp; try (first | rfl | (simp [*]))) ?_; try walk_nrm
    refine cpsR_nil O ?_
    show cps _ _ _ _ _ _
    repeat refine cps_seq O ?_
    (refine cps_region O ?_; simp only [List.size_toArray, List.length_cons, List.length_nil, Nat.reduceAdd, Nat.zero_add, List.range, List.range.loop])
    refine valE O Γ.P (.bool true) rfl rfl (fun _ => by simp [go_sem]) (fun _ => by go_simp; try (first | rfl | (simp [*]))) ?_; try walk_nrm
    refine valE O Γ.P (.bool false) rfl rfl (fun _ => by simp [go_sem]) (fun _ => by go_simp; try (first | rfl | (simp [*]))) ?_; try walk_nrm
    refine cpsR_nil O ?_
    show cps _ _ _ _ _ _
    refine cps_cond O (v := false) rfl ?_
    simp only [Bool.false_eq_true, if_false]
    refine cps_skip O ?_
    show cps _ _ _ _ _ _
    repeat refine cps_seq O ?_
    (refine cps_region O ?_; simp only [List.size_toArray, List.length_cons, List.length_nil, Nat.reduceAdd, Nat.zero_add, List.range, List.range.loop])
    refine valE O Γ.P (Γ.gate) rfl rfl (fun _ => by simp [go_sem]) (fun _ => by go_simp; try (first | rfl | (simp [*]))) ?_; try walk_nrm
    refine valE O Γ.P (.int .u64 j) rfl rfl (fun _ => by simp [go_sem]) (fun _ => by go_simp; try (first | rfl | (simp [*]))) ?_; try walk_nrm
    refine callE O Γ.P (f := 46) (vals := #[.int .u64 j]) rfl rfl rfl Try.func46 rfl rfl rfl (valueWord_e O Γ.P j (by omega) ?_)
    try walk_nrm
    refine callE O Γ.P (f := 45) (vals := #[Γ.gate, .int .u8 1, .int .i64 (3 + 2 * (j : Int))]) rfl rfl rfl Try.func45 rfl rfl rfl ?_
    refine cpsC.mono (Γ.step h4) ?_
    rintro m6 v w6 ⟨rfl, k6, a6, hk6, h6⟩
    have hxx : (stkJob S N n).exec (.vld j) a6 = (a6, .inl (.g1 1 j (.pop (List.getD (SSt.m a6) (2 * j + 1) 0)))) := exec_vld
    rw [hxx] at h6
    clear h4 hxx
    obtain ⟨x, hx0⟩ : ∃ x, x = List.getD (SSt.m a6) (2 * j + 1) 0 := ⟨_, rfl⟩
    rw [← hx0] at h6
    have hx : x < 18446744073709551616 := by
      obtain ⟨u0, hu0⟩ := Γ.rep _ _ _ _ _ h6
      have hu0 : SRep S N n a6 u0 := hu0
      have hl : 2 * j + 1 < List.length (SSt.m a6) := by have := hu0.stk.len; omega
      have := hu0.bv j hl
      rw [hx0, List.getD_eq_getElem?_getD, List.getElem?_eq_getElem hl]
      exact this
    try walk_nrm
    refine cpsR_nil O ?_
    show cps _ _ _ _ _ _
    repeat refine cps_seq O ?_
    refine Gated.alone_n Γ h6 (by kernel_rfl) fun u hu => ?_
    have hcn := hu.nodes
    have hcw2 : u.cell? ⟨N, j * 2 + 1, none⟩ = some (.int .u64 (x : Int)) := by rw [Nat.mul_comm, hx0]; exact hu.word (j := 2 * j + 1) (by omega)
    have Hu := Lib.hid hu
    clear hu hx0
    have hjn2 : decide (j < n) = true := by simpa using hj
    go_wp2_with fail
    refine (aload _ _ _ hcw2).mono ?_
    rintro e u1 ⟨rfl, rfl⟩
    go_wp2
    refine ⟨rfl, a6, Hu.out, Sm.refl _ _, fun w7 h7 => ?_⟩
    clear hcn hcw2 h6 Hu
    show cps _ _ _ _ _ _
    repeat refine cps_seq O ?_
    (refine cps_region O ?_; simp only [List.size_toArray, List.length_cons, List.length_nil, Nat.reduceAdd, Nat.zero_add, List.range, List.range.loop])
    refine valE O Γ.P (.pointer (some ⟨S, 0, none⟩)) rfl rfl (fun _ => by simp [go_sem]) (fun _ => by go_simp; try (first | rfl | (simp [*]))) ?_; try walk_nrm
    refine valE O Γ.P (Γ.gate) rfl rfl (fun _ => by simp [go_sem]) (fun _ => by go_simp; try (first | rfl | (simp [*]))) ?_; try walk_nrm
    refine valE O Γ.P (.int .u64 j) rfl rfl (fun _ => by simp [go_sem]) (fun _ => by go_simp; try (first | rfl | (simp [*]))) ?_; try walk_nrm
    refine callE O Γ.P (f := 47) (vals := #[.pointer (some ⟨S, 0, none⟩), Γ.gate, .int .i64 1, .int .u64 j]) rfl rfl rfl Try.func47 rfl rfl rfl ?_
    refine give_e Γ (i := 1) (by omega) hj h7 (fun m8 k8 a8 w8 hk8 h8 => ?_)
    clear h7
    try walk_nrm
    refine cpsR_nil O ?_
    show cps _ _ _ _ _ _
    repeat refine cps_seq O ?_
    (refine cps_region O ?_; simp only [List.size_toArray, List.length_cons, List.length_nil, Nat.reduceAdd, Nat.zero_add, List.range, List.range.loop])
    refine valE O Γ.P (.int .u64 x) rfl rfl (fun _ => by simp [go_sem]) (fun _ => by go_simp; try (first | rfl | (simp [*]))) ?_; try walk_nrm
    refine valE O Γ.P (.int .u64 x) rfl rfl (fun _ => by simp [go_sem]) (fun _ => by go_simp; try (first | rfl | (simp [*]))) ?_; try walk_nrm
    refine valE O Γ.P (.bool true) rfl rfl (fun _ => by simp [go_sem]) (fun _ => by go_simp; try (first | rfl | (simp [*]))) ?_; try walk_nrm
    refine valE O Γ.P (.int .i64 0) rfl rfl (fun _ => by simp [go_sem]) (fun _ => by go_simp; try (first | rfl | (simp [*]))) ?_; try walk_nrm
    refine cpsR_nil O ?_
    exact cps_ret O (hQ _ _ _ _ ⟨.inr rfl, .tuple #[.int .u64 x, .bool true, .int .i64 0], ret3E O Γ.P rfl rfl, Hq1.out _ _ _ _ x (by omega) hx h8⟩)
end
end Go.Proofs.Ytmcffabfghhpaaa
/- stack.New, walked alone. -/
namespace Go.Proofs.Ytmcffabfghhpaaa
open Go.RowKit
set_option linter.unusedVariables false

def memK (n k : Nat) : List Nat := (List.range (2 * n)).map fun j => if j % 2 = 0 ∧ j / 2 < k then j / 2 + 2 else 0
theorem memK_len (n k : Nat) : (memK n k).length = 2 * n := by simp [memK]
theorem memK_zero (n : Nat) : memK n 0 = List.replicate (2 * n) 0 := by
  apply List.ext_getElem <;> simp [memK]
theorem memK_get (n k j : Nat) (h : j < (memK n k).length) : (memK n k)[j] = if j % 2 = 0 ∧ j / 2 < k then j / 2 + 2 else 0 := by simp [memK]
theorem memK_succ (n k : Nat) : (memK n k).set (2 * k) (k + 2) = memK n (k + 1) := by
  apply List.ext_getElem
  · simp [memK]
  · intro j h1 h2
    rw [List.getElem_set, memK_get, memK_get]
    split
    · rw [if_pos (by omega)]; omega
    · split
      · rw [if_pos (by omega)]
      · rw [if_neg (by omega)]

theorem info_node : (Try.prog.info? 113).map (fun i => (i.zero, i.size, i.bytes)) = some (some (.agg #[.int .u64 0, .int .u64 0]), 2, 16) := by kernel_rfl

theorem made_nodes (n : Nat) : madeCells (Value.agg #[.int .u64 0, .int .u64 0]).cells (n * 2) = uw (List.replicate (2 * n) 0) := by
  apply Array.ext
  · simp [size_madeCells, uw]; omega
  · intro j h1 h2
    have : j % 2 = 0 ∨ j % 2 = 1 := by omega
    rcases this with h | h <;> simp [madeCells, uw, Value.cells, h]

theorem make_nodes (n : Nat) (hn : n ≤ 1024) (w : World) :
    (Instr.makeSlice 105 (.int .i64 n) (.int .i64 n)).run Try.prog w = .ok (.slice (some ⟨w.heap.size, 0, none⟩) n n) (w.alloc (.cells (uw (List.replicate (2 * n) 0)) 113)) := by
  obtain ⟨i0, hi, hz0, hz1, hz2⟩ := info_parts info_node
  have h := run_makeSlice (P := Try.prog) w 105 113 i0 _ Try.underlying105 hi hz0 .i64 .i64 n n (by omega) (by omega) (by rw [hz1]; omega) (by rw [hz2]; omega) (by omega)
  rw [hz1] at h
  simp only [Int.toNat_natCast, made_nodes] at h
  exact h

set_option maxRecDepth 100000 in
set_option maxHeartbeats 400000 in
theorem new_ok (n : Nat) (hn0 : 0 < n) (hn : n ≤ 1024) (hb : bits .and .i64 (n : Int) ((n : Int) - 1) = 0) (w : World) :
    Calls Try.prog 12 #[.int .i64 n] w fun e w' =>
      e = .returned (.tuple #[.pointer (some ⟨w.heap.size + 1, 0, none⟩), .int .i64 0]) ∧ Below w.heap.size w w' ∧ Stk (w.heap.size + 1) w.heap.size n 0 1 (memK n (n - 1)) w' := by
  have hm := Lib.hid (make_nodes n hn w)
  have HB := Lib.hid hb
  clear hb
  go_enter Try.func12, Try.ntmps12
  have hb := HB.out
  have hm' := hm.out
  go_wp2_with fail
  clear hb hm'
  obtain ⟨N, hN⟩ : ∃ N, N = w.heap.size := ⟨_, rfl⟩
  have hS0 : Row ((w.alloc (Obj.cells (uw (List.replicate (2 * n) 0)) 113)).alloc (Obj.cells #[Value.int IntKind.u64 0, Value.int IntKind.u64 0, Value.slice (some { block := w.heap.size, off := 0 }) n n] 107)) (N + 1) (hdr 0 0 N n) 107 := by
    have := Row.new (w.alloc (Obj.cells (uw (List.replicate (2 * n) 0)) 113)) #[Value.int IntKind.u64 0, Value.int IntKind.u64 0, Value.slice (some { block := w.heap.size, off := 0 }) n n] 107
    rw [World.size_alloc] at this
    rw [hN]
    exact this
  have hN0 : Row ((w.alloc (Obj.cells (uw (List.replicate (2 * n) 0)) 113)).alloc (Obj.cells #[Value.int IntKind.u64 0, Value.int IntKind.u64 0, Value.slice (some { block := w.heap.size, off := 0 }) n n] 107)) N (uw (memK n 0)) 113 := by
    rw [hN, memK_zero]
    exact (Row.new w _ _).alloc _
  have hB0 : Below N w ((w.alloc (Obj.cells (uw (List.replicate (2 * n) 0)) 113)).alloc (Obj.cells #[Value.int IntKind.u64 0, Value.int IntKind.u64 0, Value.slice (some { block := w.heap.size, off := 0 }) n n] 107)) := by
    rw [hN]
    exact ((Below.refl _ _).alloc (Nat.le_refl _) _).alloc (by simp) _
  generalize (w.alloc (Obj.cells (uw (List.replicate (2 * n) 0)) 113)).alloc (Obj.cells #[Value.int IntKind.u64 0, Value.int IntKind.u64 0, Value.slice (some { block := w.heap.size, off := 0 }) n n] 107) = w1 at *
  rw [← hN]
  have HN := Lib.hid hN
  clear hN
  refine (astore _ _ _ _ (hS0.cell 1) (hS0.free 1)).mono ?_
  rintro e wx ⟨rfl, rfl⟩
  have hS1 : Row (w1.setCell ⟨N + 1, 1, none⟩ (.int .u64 1)) (N + 1) (hdr 0 1 N n) 107 := hS0.set 1 _
  have hN1 : Row (w1.setCell ⟨N + 1, 1, none⟩ (.int .u64 1)) N (uw (memK n 0)) 113 := hN0.set_ne (by simp) _
  have hB1 : Below N w (w1.setCell ⟨N + 1, 1, none⟩ (.int .u64 1)) := hB0.setCell (by simp) _
  generalize w1.setCell ⟨N + 1, 1, none⟩ (.int .u64 1) = w2 at *
  clear hS0 hN0 hB0
  have HS1 := Lib.hid hS1
  go_wp2
  go_loopw [30] (fun s30 wr => ∃ k : Nat, k ≤ n - 1 ∧ s30 = .int .i64 k ∧ Row wr (N + 1) (hdr 0 1 N n) 107 ∧ Row wr N (uw (memK n k)) 113 ∧ Below N w wr) (fun s30 _ => n - (intOf s30).toNat)
  case atStart => exact ⟨0, by omega, rfl, hS1, hN1, hB1⟩
  case round =>
    obtain ⟨k, hk, rfl, hSr, hNr, hBr⟩ := hrel
    have hx : wr.cell? ⟨N + 1, 2, none⟩ = some (.slice (some ⟨N, 0, none⟩) n n) := hSr.cell 2
    by_cases hlt : k < n - 1
    · have hd : wr.cell? ⟨N, k * 2, none⟩ = some (.int .u64 ((memK n k)[2 * k]'(by rw [memK_len]; omega) : Nat)) := by
        rw [Nat.mul_comm]
        exact (hNr.cell (2 * k)).trans (uw_get _ _ _)
      have hf : wr.frozen? ⟨N, k * 2, none⟩ = false := hNr.free _
      have Hd := Lib.hid hd
      clear hd
      go_wp2_with fail
      refine (astore _ _ _ _ Hd.out hf).mono ?_
      rintro e wx ⟨rfl, rfl⟩
      have hS2 : Row (wr.setCell ⟨N, k * 2, none⟩ (.int .u64 ((k : Int) + 2))) (N + 1) (hdr 0 1 N n) 107 := hSr.set_ne (by simp) _
      have hN2 : Row (wr.setCell ⟨N, k * 2, none⟩ (.int .u64 ((k : Int) + 2))) N (uw (memK n (k + 1))) 113 := by
        have := hNr.set (2 * k) (.int .u64 ((k + 2 : Nat) : Int))
        rw [uw_set, memK_succ, Nat.mul_comm] at this
        exact this
      have hB2 : Below N w (wr.setCell ⟨N, k * 2, none⟩ (.int .u64 ((k : Int) + 2))) := hBr.setCell (by simp) _
      generalize wr.setCell ⟨N, k * 2, none⟩ (.int .u64 ((k : Int) + 2)) = w3 at *
      clear hSr hNr hBr hx Hd hf
      have HS2 := Lib.hid hS2
      have HN2 := Lib.hid hN2
      clear hS2 hN2
      go_wp2
      go_roundw
      case rel => exact ⟨k + 1, by omega, by go_num, HS2.out, HN2.out, hB2⟩
      case measure => simp [intOf]; omega
    · have hk1 : k = n - 1 := by omega
      have HK := Lib.hid hk1
      have hge : ¬ ((k : Int) < (n : Int) - 1) := by omega
      clear hk1 hlt
      have HSr := Lib.hid hSr
      have HNr := Lib.hid hNr
      clear hSr hNr hx
      go_wp2
      go_ret2
      rw [HN.out] at *
      have h1 := HNr.out
      rw [HK.out] at h1
      refine ⟨rfl, hBr, HSr.out, h1, by simp, memK_len _ _, hn0, hn, by decide, by decide, ?_⟩
      intro j hj
      rw [memK_get]
      split <;> omega
end Go.Proofs.Ytmcffabfghhpaaa
/- The gate that writes down what it is told, walked alone. -/
namespace Go.Proofs.Ytmcffabfghhpaaa
open Go.RowKit
set_option linter.unusedVariables false

/-- Marks as cells. -/
def mks (L : List (Int × Int)) : List Value := L.flatMap fun p => [.int .u8 p.1, .int .i64 p.2]
theorem mks_len (L : List (Int × Int)) : (mks L).length = L.length * 2 := by
  induction L with
  | nil => rfl
  | cons a l ih => simp [mks] at ih ⊢; omega
theorem mks_snoc (L : List (Int × Int)) (o d : Int) : mks (L ++ [(o, d)]) = mks L ++ [.int .u8 o, .int .i64 d] := by simp [mks]

/-- The gate at block nb has been told L. -/
def Noted (nb : Nat) (w : World) (L : List (Int × Int)) : Prop :=
  ∃ v : Value, Row w nb #[.bool true, v] 163 ∧ w.ownsRow (nb + 1) 110 2 v L.length (mks L)

theorem Noted.sm {F : Nat → Prop} {nb : Nat} {w w' : World} {L : List (Int × Int)} (h : Noted nb w L) (k : Sm F w w') (hF : ∀ b, nb ≤ b → ¬ F b) : Noted nb w' L := by
  obtain ⟨v, h1, h2⟩ := h
  exact ⟨v, h1.sm k (hF nb (Nat.le_refl _)), own_sm h2 k fun b hb => hF b (by omega)⟩

theorem Noted.alloc {nb : Nat} {w : World} {L : List (Int × Int)} (h : Noted nb w L) (o : Obj) : Noted nb (w.alloc o) L :=
  h.sm (F := fun _ => False) ((Sm.refl _ _).alloc o) (fun _ _ h => h)

theorem info_mark : (Try.prog.info? 110).map (fun i => (i.zero, i.size, i.bytes)) = some (some (.agg #[.int .u8 0, .int .i64 0]), 2, 16) := by kernel_rfl

theorem newNotes_c (w : World) :
    Calls Try.prog 35 #[] w fun e w' => e = .returned (.pointer (some ⟨w.heap.size, 0, none⟩)) ∧ Sm (fun _ => False) w w' ∧ Noted w.heap.size w' [] ∧ w'.heap.size = w.heap.size + 1 := by
  go_enter Try.func35, Try.ntmps35
  go_wp2
  go_ret
  exact ⟨rfl, (Sm.refl _ _).alloc _, ⟨_, Row.new _ _ _, World.ownsRow_nil _ _ _ _⟩, by simp⟩

set_option maxHeartbeats 800000 in
theorem noteStep_c (nb : Nat) (op wd : Int) (w : World) (L : List (Int × Int)) (hL : L.length < 1000000) (h : Noted nb w L) :
    Calls Try.prog 119 #[.pointer (some ⟨nb, 0, none⟩), .agg #[.int .u8 op, .int .i64 wd]] w fun e w' =>
      e = .returned (.tuple #[]) ∧ Noted nb w' (L ++ [(op, wd)]) ∧ Sm (fun b => nb ≤ b) w w' := by
  obtain ⟨v, h1, h2⟩ := h
  obtain ⟨i0, hi, hz0, hz1, hz2⟩ := info_parts info_mark
  have hlt := h1.lt
  have c0 : w.cell? ⟨nb, 0, none⟩ = some (.bool true) := h1.cell 0
  have c1 : w.cell? ⟨nb, 1, none⟩ = some v := h1.cell 1
  have f1 : w.frozen? ⟨nb, 1, none⟩ = false := h1.free 1
  have Hi := Lib.hid hi
  have Hz0 := Lib.hid hz0
  have Hz1 := Lib.hid hz1
  have Hz2 := Lib.hid hz2
  have H1 := Lib.hid h1
  have H2 := Lib.hid h2
  clear h1 h2 hi hz0 hz1 hz2
  go_enter Try.func119, Try.ntmps119
  go_wp2_with fail
  obtain ⟨wa, hwa⟩ : ∃ wa : World, wa = w.alloc (Obj.cells #[Value.int IntKind.u8 op, Value.int IntKind.i64 wd] 110) := ⟨_, rfl⟩
  have c0a : wa.cell? ⟨nb, 0, none⟩ = some (.bool true) := by rw [hwa]; exact (H1.out.alloc _).cell 0
  have H1a : Row wa nb #[Value.bool true, v] 163 := by rw [hwa]; exact H1.out.alloc _
  have c1a : wa.cell? ⟨nb, 1, none⟩ = some v := H1a.cell 1
  have m0 : wa.cell? ⟨w.heap.size, 0, none⟩ = some (.int .u8 op) := by rw [hwa]; exact (Row.new w _ _).cell 0
  have m1 : wa.cell? ⟨w.heap.size, 1, none⟩ = some (.int .i64 wd) := by rw [hwa]; exact (Row.new w _ _).cell 1
  have ha : wa.ownsRow (nb + 1) 110 2 v L.length (mks L) := by rw [hwa]; exact H2.out.alloc _
  have sa : Sm (fun b => nb ≤ b) w wa := by rw [hwa]; exact (Sm.refl _ _).alloc _
  have za : nb + 1 ≤ wa.heap.size := by rw [hwa, World.size_alloc]; omega
  rw [← hwa]
  have HA := Lib.hid ha
  have H1A := Lib.hid H1a
  clear hwa c0 c1 f1 ha H1a
  have hone : ∀ u ∈ [Value.int .u8 op, Value.int .i64 wd], u.oneCell' = true := by simp [Value.oneCell']
  have c1b : (wa.alloc (Obj.cells #[Value.int IntKind.u8 op, Value.int IntKind.i64 wd] 110)).cell? ⟨nb, 1, none⟩ = some v := (H1A.out.alloc _).cell 1
  go_region_law (refine step_append_own rfl (.tmp 16) (.tmp 18) 65 rfl (nb + 1) 110 i0 (.agg #[.int .u8 0, .int .i64 0]) 2 16 Try.underlying65 Hi.out Hz0.out Hz1.out Hz2.out rfl (by decide) v L.length (mks L) (by simp [Act.eval]) (HA.out.drew.alloc _) ⟨wa.heap.size, 0, none⟩ 1 1 [.int .u8 op, .int .i64 wd] (by simp [Act.eval]) rfl (new_cells wa.drew [.int .u8 op, .int .i64 wd] 110) hone (by unfold maxLen; omega) (by omega) (by simp; omega) ?_; intro v' w' hown' hg'; obtain ⟨g', cap', hv'⟩ := own_form hown' (by omega); subst hv'; have H1' := Lib.hid (((H1A.out.alloc _).drew).grown hg' (fun e => by have := (HA.out.lt nb e).1; omega)); have c1' : w'.cell? ⟨nb, 1, none⟩ = some v := H1'.out.cell 1; have f1' : w'.frozen? ⟨nb, 1, none⟩ = false := H1'.out.free 1)
  all_goals
    go_wp2
    refine bodyPost_end (results_none rfl _ _ _) rfl ?_
    have H1' := Row.grown ((Row.alloc H1A.out _).drew) hg' (fun e => by have := (HA.out.lt nb e).1; omega)
    have hs' : Sm (fun b => nb ≤ b) wa w' := ((Sm.refl _ wa).alloc _).drew.trans (sm_grown hg' fun k e => by have := (HA.out.lt k e).1; omega)
    refine ⟨rfl, ⟨_, H1'.set 1 _, ?_⟩, sa.trans (hs'.setCell (Nat.le_refl _) _)⟩
    rw [mks_snoc, List.length_append]
    exact ownsRow_setCell_below hown' (by simp) _
end Go.Proofs.Ytmcffabfghhpaaa
/- stack.step at the gate that writes down; the gates of package stack's walks. -/
namespace Go.Proofs.Ytmcffabfghhpaaa
open Go.RowKit
set_option linter.unusedVariables false

theorem gate_nil (B S N : Nat) : GateOk .nilIface B S N (fun _ _ => True) where
  step := fun w L op wd _ _ => (step_nil op wd w).mono fun e w' ⟨h1, h2⟩ => by
    subst h2
    exact ⟨h1, trivial, Below.refl _ _, rfl, rfl⟩
  keep := fun _ _ _ _ _ => trivial

theorem gate_nilX (B S N : Nat) (X : World → Prop) (hX : ∀ w w', X w → Sm (fun k => k = S ∨ k = N) w w' → X w') : GateOk .nilIface B S N (fun w _ => X w) where
  step := fun w L op wd _ hg => (step_nil op wd w).mono fun e w' ⟨h1, h2⟩ => by
    subst h2
    exact ⟨h1, hg, Below.refl _ _, rfl, rfl⟩
  keep := fun w w' _ h k => hX w w' h k

theorem stepNote_c (nb : Nat) (op wd : Int) (w : World) (L : List (Int × Int)) (hL : L.length < 1000000) (h : Noted nb w L) :
    Calls Try.prog 45 #[.iface 90 (.pointer (some ⟨nb, 0, none⟩)), .int .u8 op, .int .i64 wd] w fun e w' =>
      e = .returned (.tuple #[]) ∧ Noted nb w' (L ++ [(op, wd)]) ∧ Sm (fun b => nb ≤ b) w w' := by
  have H := Lib.hid (noteStep_c nb op wd w L hL h)
  clear h
  go_enter Try.func45, Try.ntmps45
  go_wp2_with fail
  refine H.out.mono ?_
  rintro e w' ⟨rfl, h1, h2⟩
  have H2 := Lib.hid h2
  clear h2
  go_wp2
  refine bodyPost_end (results_none rfl _ _ _) rfl ?_
  exact ⟨rfl, h1, H2.out⟩

theorem gate_note (B S N nb : Nat) (hS : S < nb) (hN : N < nb) (hB : B ≤ nb) : GateOk (.iface 90 (.pointer (some ⟨nb, 0, none⟩))) B S N (fun w L => nb < w.heap.size ∧ Noted nb w L) where
  step := fun w L op wd hL hg => (stepNote_c nb op wd w L hL hg.2).mono fun e w' ⟨h1, h2, h3⟩ =>
    ⟨h1, ⟨Nat.lt_of_lt_of_le hg.1 h3.size, h2⟩, h3.below (by omega) (fun k hk => by omega), h3.block S (by omega) (by omega), h3.block N (by omega) (by omega)⟩
  keep := fun w w' L hg k => ⟨Nat.lt_of_lt_of_le hg.1 k.size, hg.2.sm k (fun b hb => by omega)⟩
end Go.Proofs.Ytmcffabfghhpaaa
/- Plain words: a gate that hinders nobody: none at all, or one that writes down. No condition. -/
namespace Go.Proofs.Ytmcffabfghhpaaa
open Go.Conc Go.RowKit
/-- What comes of a call that nobody disturbs: the state, the answer, what its gate is told. -/
def Job.fin (J : Job) : Nat → List (Int × Int) → J.St × (J.Pos ⊕ J.Res) → Option (J.St × J.Res × List (Int × Int))
  | _, L, (a, .inr r) => some (a, r, L)
  | 0, _, (_, .inl _) => none
  | k + 1, L, (a, .inl p) => J.fin k (L ++ [J.mark p]) (J.exec p a)
theorem Job.fin_inr {J : Job} {k : Nat} {L : List (Int × Int)} {a : J.St} {r : J.Res} : J.fin k L (a, .inr r) = some (a, r, L) := by cases k <;> rfl
theorem Job.fin_inl {J : Job} {k : Nat} {L : List (Int × Int)} {a : J.St} {p : J.Pos} {f : J.St × J.Res × List (Int × Int)} (h : J.fin k L (a, .inl p) = some f) : ∃ k', k = k' + 1 ∧ J.fin k' (L ++ [J.mark p]) (J.exec p a) = some f := by
  cases k with
  | zero => cases h
  | succ k => exact ⟨k, rfl, h⟩
section
variable {J : Job}
instance ho_rep {a : J.St} : HO (J.Rep a) := ⟨fun u u' h _ _ q => J.frame a u u' (fun b _ => by rw [h]) q⟩
/-- How goroutine 0 stands in a call of its own. -/
def AtG (J : Job) (x : LX) (G : List (Int × Int) → World → Prop) (M : World → Prop) (f : J.St × J.Res × List (Int × Int)) (n : LX) (k : Nat) (a : J.St) (d : J.St × (J.Pos ⊕ J.Res)) (w : World) : Prop :=
  n = x ∧ ∃ L, J.fin k L d = some f ∧ L.length + k < 1000000 ∧ Kn x (fun u => J.Rep a u ∧ G L u ∧ M u) w
/-- What is asked of a gate, and of what is known besides. -/
structure Gate0 (J : Job) (W : Machine → Trace → Prop) (x : LX) (g : Value) (G : List (Int × Int) → World → Prop) (M : World → Prop) : Prop where
  hg : ∀ L, HO (G L)
  hm : HO M
  keep : ∀ (a : J.St) (L : List (Int × Int)) (u u' : World), J.Rep a u → Sm (J.foot a) u u' → G L u ∧ M u → G L u' ∧ M u'
  step : ∀ (w : World) (a : J.St) (L : List (Int × Int)) (m : Int × Int) (Q : LX → Value → World → Prop), L.length < 1000000 → Kn x (fun u => J.Rep a u ∧ G L u ∧ M u) w → (∀ w', Kn x (fun u => J.Rep a u ∧ G (L ++ [m]) u ∧ M u) w' → Q x (.tuple #[]) w') →
    cpsC (envL W) 45 #[g, .int .u8 m.1, .int .i64 m.2] Q x w
noncomputable def gated0 {W : Machine → Trace → Prop} {x : LX} {g : Value} {G : List (Int × Int) → World → Prop} {M : World → Prop} (H : Gate0 J W x g G M) (f : J.St × J.Res × List (Int × Int)) : Gated J where
  E := envL W
  ok := envL_ok
  P := rfl
  gate := g
  At := AtG J x G M f
  rely := fun n k a d w w' h hR => by
    obtain ⟨rfl, L, h1, h2, h3⟩ := h
    exact ⟨rfl, L, h1, h2, h3.at hR⟩
  rep := fun n k a d w h => by
    obtain ⟨rfl, L, h1, h2, h3⟩ := h
    obtain ⟨u, _, hu⟩ := h3.get
    exact ⟨u, hu.1⟩
  alone := fun {n k a d w c t Q} h hc hwp => by
    obtain ⟨rfl, L, h1, h2, h3⟩ := h
    have := H.hg
    have := H.hm
    refine cps_alone (E := envL W) (n := n) (K := fun w w' => w.heap.size ≤ w'.heap.size) envL_ok (thr_fit (sigL n)) suitsL h3.real hc fun u hu => ?_
    have hM := h3.on u hu
    refine wp_mono (hwp u hM.1) fun e a' u' q => ⟨q.1, q.2.1, fun w' hp hs => ?_⟩
    obtain ⟨_, _, σ', q1, q2, q3, q4⟩ := q
    exact q4 w' ⟨rfl, L, h1, h2, Kn.intro (M := fun u => J.Rep σ' u ∧ G L u ∧ M u) (fun b hb => hp.real b hb) hp ⟨q1, H.keep a L u u' hM.1 q3 hM.2⟩⟩
  step := fun {n k a p w} h => by
    obtain ⟨rfl, L, h1, h2, h3⟩ := h
    obtain ⟨k', rfl, h4⟩ := Job.fin_inl h1
    refine H.step w a L (J.mark p) _ (by omega) h3 fun w' h' => ⟨rfl, k', a, Nat.lt_succ_self _, rfl, _, h4, by simp; omega, h'⟩
end
section
variable {E : Env} {n : E.ι} {w : World}
set_option maxRecDepth 100000 in
theorem step_nil_e (O : E.Ok) (hP : E.P = Try.prog) (m1 m2 : Int) {Q : E.ι → Value → World → Prop} (hq : Q n (.tuple #[]) w) : cpsC E 45 #[.nilIface, .int .u8 m1, .int .i64 m2] Q n w := by
  refine cpsC_body O (by rw [hP]; exact Try.func45) rfl ?_
  simp only [Try.ntmps45]
  refine cps_opaque fun Q' hQ => ?_
  walk_nrm
  repeat refine cps_seq O ?_
  (refine cps_region O ?_; simp only [List.size_toArray, List.length_cons, List.length_nil, Nat.reduceAdd, Nat.zero_add, List.range, List.range.loop])
  refine valE O hP (.nilIface) rfl rfl (fun _ => by simp [go_sem]) (fun _ => by go_simp; try (first | rfl | (simp [*]))) ?_; try walk_nrm
  have hne := neq_ev
  refine valE O hP (.bool false) rfl rfl (fun _ => by first | exact hne _ | (simp [go_sem]; exact hne _) | simp [go_sem]) (fun _ => by go_simp; try (first | rfl | (simp [*]))) ?_
  try walk_nrm
  refine cpsR_nil O ?_
  show cps _ _ _ _ _ _
  refine cps_cond O (v := false) rfl ?_
  simp only [Bool.false_eq_true, if_false]
  exact cps_skip O (hQ _ _ _ _ ⟨.inl rfl, .tuple #[], ret0E O hP rfl, hq⟩)
end
section
variable {J : Job} {W : Machine → Trace → Prop} {x : LX} {M : World → Prop}
/-- No gate. -/
theorem gateNil (hm : HO M) (hk : ∀ (a : J.St) (u u' : World), J.Rep a u → Sm (J.foot a) u u' → M u → M u') : Gate0 J W x .nilIface (fun _ _ => True) M where
  hg := fun _ => inferInstance
  hm := hm
  keep := fun a L u u' h1 h2 h3 => ⟨trivial, hk a u u' h1 h2 h3.2⟩
  step := fun w a L m Q _ h hq => step_nil_e envL_ok rfl m.1 m.2 (hq w h)
end
end Go.Proofs.Ytmcffabfghhpaaa
/- Plain words: from the words of goroutine 0 to a law's run. No condition. -/
namespace Go.Proofs.Ytmcffabfghhpaaa
open Go.Conc Go.RowKit
section
variable {Post : Value → World → Prop}
/-- A law's run from its start to its end. -/
theorem law_good {f : FuncId} {fn : Func} {c : Code} {args : Array Value} {w : World} (hf : Try.prog.funcs[f]? = some fn) (hb : fn.body = some c) (hne : f ≠ 2)
    (h : cps (envL (GoodEnd Try.prog Post)) c (fun x' e t' w' => e = .ret ∧ ∃ v, (∀ w₁, AtRel w' w₁ → ∃ es, (results fn t').runT Try.prog w₁ #[] = (.ok v w₁, es) ∧ DL x'.sh w₁ w₁ es) ∧ ∀ w₁, AtRel w' w₁ → Post v w₁) ⟨none, 1⟩ (args ++ Array.replicate (fn.ntmps - args.size) undef) w) :
    GoodEnd Try.prog Post (solo (G (Frame.enter Try.prog f args .normal) []) w) #[] := by
  have he : Frame.enter Try.prog f args .normal = (Frame.enter Try.prog f args .normal).at ⟨args ++ Array.replicate (fn.ntmps - args.size) undef, []⟩ [.code c] := by
    simp [Frame.enter, Frame.at, hf, hb]
  have hF : (envL (GoodEnd Try.prog Post)).Fr (Frame.enter Try.prog f args .normal) [] := ⟨rfl, ⟨fn, hf⟩, trivial⟩
  have hG : (envL (GoodEnd Try.prog Post)).Go ⟨none, 1⟩ (G (Frame.enter Try.prog f args .normal) []) w := by
    rw [he]
    refine h _ [] [] hF fun n' hn e t' w' q => ?_
    obtain ⟨rfl, v, q2, q3⟩ := q
    intro todo
    refine goL fun w₁ hR gs T qq L hP hg hsz => ?_
    refine lend hg L hP fun w₂ hR2 => ?_
    have hRR := atRel_trans _ _ _ hR hR2
    obtain ⟨es, hr, hd⟩ := q2 w₂ hRR
    have hs : w₂.heap.size = w₁.heap.size := by obtain ⟨d, rfl⟩ := hR2; rfl
    refine ⟨rfl, v, seen Try.prog f es, ?_, fun e he => by rw [← hs]; exact hd.ev e (seen_sub _ _ _ e he), q3 w₂ hRR⟩
    simp only [G, stepG, unwind, Frame.at, Frame.enter, hf]
    simp only [hr, GStep.after, doReturn]
    have hne' : ¬ (2 = f) := fun e => hne e.symm
    simp [hne']
  rw [solo_eq_crowd]
  refine winL back_goodEnd hG #[_] #[] (fun _ => 0) (leavers_one _ _) (past_nil.mono (Nat.zero_le _)) rfl rfl none
end
end Go.Proofs.Ytmcffabfghhpaaa
/- Plain words: goroutine 0's calls by their lone contracts. No condition. -/
namespace Go.Proofs.Ytmcffabfghhpaaa
open Go.Conc Go.RowKit
section
variable {W : Machine → Trace → Prop} {x : LX} {M : World → Prop} {w : World} {ops : Array Oper} {i : Nat} {o : Oper} {l : List Nat} {t : Array Value} {Qr : LX → Array Value → World → Prop}
theorem opCallK {M' : Value → World → Prop} [hM : ∀ v, HO (M' v)] {f : FuncId} {fn : Func} {c : Code} {args : Array Operand} {ats : Array TypeId} {vals : Array Value} (h : Kn x M w) (hops : ops.all (fun o => mainOk o.op) = true) (ho : ops[i]? = some o) (hw : Region.wanted o (yielded ops t) = true)
    (hop : o.op = .call { callee := .value (.func f), args, argTypes := ats }) (hf : Try.prog.funcs[f]? = some fn) (hnm : (fn.name == "runtime.NumGoroutine") = false) (hb : fn.body = some c) (hv : args.toList.map (⟨t, []⟩ : Act).eval = vals.toList)
    (hc : ∀ u, M u → u.heap.size = w.heap.size → Calls Try.prog f vals u fun e u' => ∃ v, e = .returned v ∧ M' v u')
    (hk : ∀ v w', Kn x (M' v) w' → w.heap.size ≤ w'.heap.size → cpsR (envL W) ops l Qr x ((⟨t, []⟩ : Act).put o.dst v).tmps w') : cpsR (envL W) ops (i :: l) Qr x t w := by
  intro b k cs hfr hkk
  refine goes_ops (l := [i]) (l2 := l) (K := fun w w' => w.heap.size ≤ w'.heap.size) (main_fit (sigL x) inferInstance) suitsL hfr.kind h.real hops fun u hu => ?_
  have hM0 := h.on u hu
  simp only [wpOps, ho, hw, if_true]
  refine .inl ?_
  unfold Oper.wp
  rw [(call_run hop hv u).1, run_callF hf hnm hb, Oper.upon_enter]
  intro cs'
  obtain ⟨e, u', fr, ⟨v, rfl, hm⟩, h2⟩ := hc u hM0 hu.size cs'
  refine ⟨.returned v, u', fr, ?_, h2⟩
  refine ⟨trivial, by rw [put_at], fun w' hp hs => ?_⟩
  exact hk v w' (Kn.intro (fun b hb => hp.real b hb) hp hm) hs b k cs hfr hkk
end
end Go.Proofs.Ytmcffabfghhpaaa
/- Plain words: what a thread knows of its own memory between two calls; its words. No condition. -/
namespace Go.Proofs.Ytmcffabfghhpaaa
open Go.Conc Go.RowKit
section
variable {J : Job} {K : Client J} {Wg : Nat} {s : SV}
abbrev TIx (K : Client J) : Type := Nat × (K.core.spec.St × Option K.core.spec.Pc) × Tab
/-- A thread between two calls: the state now, the state to be reached. -/
structure TK (K : Client J) (Wg : Nat) (s : SV) (n : TIx K) (a : J.St) (b : K.B) (F : (J.St × K.B) × Option (J.Pos × K.C)) (w : World) : Prop where
  mem : s ∈ n.2.2
  off : Off Wg n.2.2
  sh : ShOk (WgL Wg) Wg n.2.2
  wd : Wd Wg n.2.2 w
  rep : ∃ o : Own, RepT K.core.spec Wg n.2.2 ((a, b), o) w ∧ n.2.1 = ((F.1, o), F.2)
variable {n : TIx K} {a a' : J.St} {b b' : K.B} {F : (J.St × K.B) × Option (J.Pos × K.C)} {w : World}
theorem TK.call {p : J.Pos} {c : K.C} (h : TK K Wg s n a b ((a, b), some (p, c)) w) : AtT K Wg s c n n.1 a (a, .inl p) w := by
  obtain ⟨o, h1, h2⟩ := h.rep
  exact ⟨rfl, h.mem, h.off, h.sh, h.wd, b, o, h1, h2⟩
theorem AtT.answer {c : K.C} {k : Nat} {r : J.Res} (h : AtT K Wg s c n k a (a, .inr r) w) : ∃ b, TK K Wg s n a b (K.fin c r (a, b)) w := by
  obtain ⟨h1, h2, h3, h4, h5, b, o, h6, h7⟩ := h
  exact ⟨b, h2, h3, h4, h5, o, h6, h7⟩
theorem TK.done (h : TK K Wg s n a b ((a, b), none) w) : ThrPost K.core.spec Wg (WgL Wg) s n (.tuple #[]) w := by
  obtain ⟨o, h1, h2⟩ := h.rep
  obtain ⟨n1, E, θ⟩ := n
  have h2 : E = (((a, b), o), none) := h2
  subst h2
  exact ⟨rfl, n1, _, θ, rfl, h.mem, h.off, h.sh, h.wd, h1⟩
/-- What a thread's own step may do to its memory. -/
structure Mv (K : Client J) (a a' : J.St) (b b' : K.B) (u u' : World) : Prop where
  rep : J.Rep a' u'
  repB : K.RepB b' u'
  dis : ∀ x, J.foot a' x → ¬ K.footB b' x
  same : Sm (fun x => J.foot a x ∨ K.footB b x) u u'
  grow : ∀ x, J.foot a' x ∨ K.footB b' x → (J.foot a x ∨ K.footB b x) ∨ u.heap.size ≤ x
theorem Mv.refl {u : World} (h1 : J.Rep a u) (h2 : K.RepB b u) (h3 : ∀ x, J.foot a x → ¬ K.footB b x) : Mv K a a b b u u := ⟨h1, h2, h3, Sm.refl _ _, fun _ h => .inl h⟩
theorem Mv.spec {u u' : World} (o : Own) (h : Mv K a a' b b' u u') (hr : K.core.spec.Rep ((a, b), o) u) : K.core.spec.Rep ((a', b'), o) u' := by
  obtain ⟨hY, ho⟩ := hr
  refine ⟨⟨h.rep, h.repB, h.dis⟩, fun x ob hob => ?_, h.same.os.trans ho.os, h.same.output.trans ho.out⟩
  obtain ⟨q1, q2, q3⟩ := ho.on x ob hob
  have q2 : ¬ (J.foot a x ∨ K.footB b x) := q2
  have hl := (Array.getElem?_eq_some_iff.1 q1).1
  refine ⟨?_, fun hx => ?_, q3⟩
  · rw [h.same.block x hl q2]; exact q1
  · rcases h.grow x hx with h' | h'
    · exact q2 h'
    · omega
theorem TK.lone (h : TK K Wg s n a b F w) : ∃ u, Ps0 Try.prog (sig Wg n.2.2) w u ∧ J.Rep a u ∧ K.RepB b u ∧ ∀ x, J.foot a x → ¬ K.footB b x := by
  obtain ⟨o, h1, _⟩ := h.rep
  have hu := spoil_ps (P := Try.prog) no_steps (real_of h.off h.wd.kt h.wd.wg)
  exact ⟨_, hu, (h1 _ hu).1⟩
theorem TK.rwg {w' : World} (h : TK K Wg s n a b F w) (hR : RWg tWg Wg w w') : TK K Wg s n a b F w' := by
  obtain ⟨o, h1, h2⟩ := h.rep
  exact ⟨h.mem, h.off, h.sh, h.wd.rwg h.off hR, o, h1.rwg h.off h.wd hR, h2⟩
/-- A piece by its walk alone. -/
theorem aloneTK {c : Code} {t : Array Value} {Q : TIx K → Exit → Array Value → World → Prop} (h : TK K Wg s n a b F w) (hc : okCode thrOk false c = true)
    (hwp : ∀ u, J.Rep a u → K.RepB b u → (∀ x, J.foot a x → ¬ K.footB b x) → c.wp Try.prog (onlyN fun a₁ u' => a₁.defers = [] ∧ ∃ a' b', Mv K a a' b b' u u' ∧ ∀ w', TK K Wg s n a' b' F w' → Q n .normal a₁.tmps w') ⟨t, []⟩ u) : cps (envT K.core.spec Wg (WgL Wg) s) c Q n t w := by
  obtain ⟨o, h1, h2⟩ := h.rep
  obtain ⟨n1, E, θ⟩ := n
  refine aloneT h.off h.sh h.wd hc fun u hu => ?_
  have hr := h1 u hu
  refine wp_mono (hwp u hr.1.1 hr.1.2.1 hr.1.2.2) fun e a₁ u' q => ?_
  cases e with
  | normal =>
    obtain ⟨q1, a', b', q2, q3⟩ := q
    refine ⟨rfl, q1, fun w' hp hwd _ => q3 w' ⟨h.mem, h.off, h.sh, hwd, o, RepT.intro hp (q2.spec o hr), h2⟩⟩
  | _ => exact q.elim
section region
variable {ops : Array Oper} {i : Nat} {o : Oper} {l : List Nat} {t : Array Value} {Qr : TIx K → Array Value → World → Prop}
/-- An operation by its walk alone. -/
theorem opT (h : TK K Wg s n a b F w) (v : Value) (a' : J.St) (b' : K.B) (ho : ops[i]? = some o) (hok : thrOk o.op = true) (hw : Region.wanted o (yielded ops t) = true)
    (hrun : ∀ u, J.Rep a u → K.RepB b u → (∀ x, J.foot a x → ¬ K.footB b x) → ∃ u', ((execOp (⟨t, []⟩ : Act).eval o).run Try.prog u = .ok (.value v) u' ∨ (execOp (⟨t, []⟩ : Act).eval o).run Try.prog u = .ok .skip u' ∧ v = undef) ∧ Mv K a a' b b' u u')
    (hk : ∀ w', TK K Wg s n a' b' F w' → cpsR (envT K.core.spec Wg (WgL Wg) s) ops l Qr n ((⟨t, []⟩ : Act).put o.dst v).tmps w') : cpsR (envT K.core.spec Wg (WgL Wg) s) ops (i :: l) Qr n t w := by
  obtain ⟨oo, h1, h2⟩ := h.rep
  obtain ⟨n1, E, θ⟩ := n
  have real := real_of h.off h.wd.kt h.wd.wg
  have U : Suits Try.prog (sig Wg θ) (RWg tWg Wg) (DH Wg (WgL Wg) (KT θ) (StT θ) (isCh θ)) (KR Wg θ) := suits h.off fun l hl => (h.sh l hl).imp fun a h => ⟨h.1, h.2.1⟩
  have F0 := thr_fit (sig Wg θ)
  refine cpsR_op (envT_ok _ _ _ _) ho hw fun w₁ hR => ?_
  have hR : RWg tWg Wg w w₁ := hR
  have hp0 := spoil_ps (P := Try.prog) no_steps real
  have hp1 : Ps0 Try.prog (sig Wg θ) w₁ (spoil (sig Wg θ) w) := Ps.others hp0 (U.oth _ _ hR)
  have hT := F0.op (⟨t, []⟩ : Act).eval (fun _ => rfl) o hok
  let T : Nat → Question → Nat := fun k => w₁.tape (w₁.drawn + (k - (spoil (sig Wg θ) w).drawn))
  have hp2 := hp0.dealt T
  have hr0 := h1 _ hp2
  obtain ⟨u', hr, hm⟩ := hrun _ hr0.1.1 hr0.1.2.1 hr0.1.2.2
  have key : ∀ nx, (execOp (⟨t, []⟩ : Act).eval o).run Try.prog (World.deal (spoil (sig Wg θ) w) T) = .ok nx u' → ∃ w' es', (execOp (⟨t, []⟩ : Act).eval o).runT Try.prog w₁ #[] = (.ok nx w', es') ∧ DH Wg (WgL Wg) (KT θ) (StT θ) (isCh θ) w₁ w' es' ∧ TK K Wg s (n1, E, θ) a' b' F w' := fun nx hr => by
    obtain ⟨w', es', q1, q2, q3, q4⟩ := hT.mild.sim u'.drawn w₁ _ nx u' #[] (hp1.deal u'.drawn) hr (Nat.le_refl _)
    have hKR : KR Wg θ w w' := KR.trans _ _ _ (U.kr _ _ hR) (U.kf _ _ _ _ q3)
    exact ⟨w', es', by simpa using q1, U.list _ _ _ _ _ q3 q4, h.mem, h.off, h.sh, h.wd.kr hKR, oo, RepT.intro q2.off (hm.spec oo hr0), h2⟩
  rcases hr with hr | ⟨hr, rfl⟩
  · obtain ⟨w', es', q1, q2, q3⟩ := key _ hr
    exact ⟨v, w', es', .inl q1, q2, hk w' q3⟩
  · obtain ⟨w', es', q1, q2, q3⟩ := key _ hr
    exact ⟨undef, w', es', .inr ⟨q1, rfl⟩, q2, hk w' q3⟩
/-- A read. -/
theorem readTK (h : TK K Wg s n a b F w) (v : Value) (ho : ops[i]? = some o) (hok : thrOk o.op = true) (hw : Region.wanted o (yielded ops t) = true)
    (hrun : ∀ u, J.Rep a u → K.RepB b u → (execOp (⟨t, []⟩ : Act).eval o).run Try.prog u = .ok (.value v) u)
    (hk : ∀ w', TK K Wg s n a b F w' → cpsR (envT K.core.spec Wg (WgL Wg) s) ops l Qr n ((⟨t, []⟩ : Act).put o.dst v).tmps w') : cpsR (envT K.core.spec Wg (WgL Wg) s) ops (i :: l) Qr n t w :=
  opT h v a b ho hok hw (fun u h1 h2 h3 => ⟨u, .inl (hrun u h1 h2), Mv.refl h1 h2 h3⟩) hk
end region
end
end Go.Proofs.Ytmcffabfghhpaaa
/- Plain words: Push and Pop, called by a thread. No condition. -/
namespace Go.Proofs.Ytmcffabfghhpaaa
open Go.Conc Go.RowKit
/-- An answer as numbers. -/
def SRes.num : SRes → Nat
  | .done (.pop x) => x
  | _ => 0
def SRes.ok : SRes → Bool
  | .done _ => true
  | _ => false
section
variable {S N sz : Nat} {K : Client (stkJob S N sz)} {Wg : Nat} {s : SV} {n : TIx K} {a : SSt} {b : K.B} {w : World}
theorem pop_t {c : K.C} (h : TK K Wg s n a b ((a, b), some (SPos.t1 0 .pop, c)) w) {Q : TIx K → Value → World → Prop}
    (hq : ∀ (n' : TIx K) (a' : SSt) (b' : K.B) (r : SRes) (w' : World), (r = .none .pop ∨ ∃ x, r = .done (.pop x)) → r.num < 18446744073709551616 → TK K Wg s n' a' b' (K.fin c r (a', b')) w' → Q n' (.tuple #[.int .u64 r.num, .bool r.ok, .int .i64 0]) w') :
    cpsC (envT K.core.spec Wg (WgL Wg) s) 14 #[.pointer (some ⟨S, 0, none⟩), seatGate s] Q n w :=
  pop_e (gatedT K Wg s c) h.call (fun m' k' a' w' _ h' => by
    obtain ⟨b', h''⟩ := AtT.answer h'
    exact hq m' a' b' (.none .pop) w' (.inl rfl) (by decide) h'') (fun m' k' a' w' x _ hx h' => by
    obtain ⟨b', h''⟩ := AtT.answer h'
    exact hq m' a' b' (.done (.pop x)) w' (.inr ⟨x, rfl⟩) hx h'')
theorem push_t {c : K.C} {v : Nat} (hv : v < 18446744073709551616) (h : TK K Wg s n a b ((a, b), some (SPos.t1 1 (.push v), c)) w) {Q : TIx K → Value → World → Prop}
    (hq : ∀ (n' : TIx K) (a' : SSt) (b' : K.B) (r : SRes) (w' : World), (r = .none (.push v) ∨ r = .done .push) → TK K Wg s n' a' b' (K.fin c r (a', b')) w' → Q n' (.tuple #[.bool r.ok, .int .i64 0]) w') :
    cpsC (envT K.core.spec Wg (WgL Wg) s) 13 #[.pointer (some ⟨S, 0, none⟩), seatGate s, .int .u64 v] Q n w :=
  push_e (gatedT K Wg s c) hv h.call (fun m' k' a' w' _ h' => by
    obtain ⟨b', h''⟩ := AtT.answer h'
    exact hq m' a' b' (.none (.push v)) w' (.inl rfl) h'') (fun m' k' a' w' _ h' => by
    obtain ⟨b', h''⟩ := AtT.answer h'
    exact hq m' a' b' (.done .push) w' (.inr rfl) h'')
end
end Go.Proofs.Ytmcffabfghhpaaa
/- Plain words: goroutine 0's own Push and Pop; the gate that writes down. No condition. -/
namespace Go.Proofs.Ytmcffabfghhpaaa
open Go.Conc Go.RowKit
section
variable {W : Machine → Trace → Prop} {x : LX} {w : World}
instance ho_srep {S N n : Nat} {a : SSt} : HO (SRep S N n a) := ho_rep (J := stkJob S N n)
instance ho_noted {nb : Nat} {L : List (Int × Int)} : HO fun u => Noted nb u L := by unfold Noted; infer_instance
theorem note_run (k b : Nat) (w : World) : Sem.run Try.prog (Go.method (k + 1) 90 (.pointer (some ⟨b, 0, none⟩)) "Step") w = .ok (119, .pointer (some ⟨b, 0, none⟩)) w := by kernel_rfl
theorem note_ev (k b : Nat) (w : World) : Sem.events Try.prog (Go.method (k + 1) 90 (.pointer (some ⟨b, 0, none⟩)) "Step") w #[] = #[] := by kernel_rfl
set_option maxHeartbeats 1600000 in
theorem note_body (nb : Nat) (op wd : Int) (w : World) (L : List (Int × Int)) (hL : L.length < 1000000) (h : Noted nb w L) :
    (Try.f119.body.getD .skip).wp Try.prog (onlyK fun a' w' => a'.defers = [] ∧ Noted nb w' (L ++ [(op, wd)]) ∧ Sm (fun b => nb ≤ b) w w') ⟨#[.pointer (some ⟨nb, 0, none⟩), .agg #[.int .u8 op, .int .i64 wd]] ++ Array.replicate 20 undef, []⟩ w := by
  obtain ⟨v, h1, h2⟩ := h
  obtain ⟨i0, hi, hz0, hz1, hz2⟩ := info_parts info_mark
  have hlt := h1.lt
  have c0 : w.cell? ⟨nb, 0, none⟩ = some (.bool true) := h1.cell 0
  have c1 : w.cell? ⟨nb, 1, none⟩ = some v := h1.cell 1
  have f1 : w.frozen? ⟨nb, 1, none⟩ = false := h1.free 1
  have Hi := Lib.hid hi
  have Hz0 := Lib.hid hz0
  have Hz1 := Lib.hid hz1
  have Hz2 := Lib.hid hz2
  have H1 := Lib.hid h1
  have H2 := Lib.hid h2
  clear h1 h2 hi hz0 hz1 hz2
  walk_nrmf Try.f119
  go_wp2_with fail
  obtain ⟨wa, hwa⟩ : ∃ wa : World, wa = w.alloc (Obj.cells #[Value.int IntKind.u8 op, Value.int IntKind.i64 wd] 110) := ⟨_, rfl⟩
  have c0a : wa.cell? ⟨nb, 0, none⟩ = some (.bool true) := by rw [hwa]; exact (H1.out.alloc _).cell 0
  have H1a : Row wa nb #[Value.bool true, v] 163 := by rw [hwa]; exact H1.out.alloc _
  have c1a : wa.cell? ⟨nb, 1, none⟩ = some v := H1a.cell 1
  have m0 : wa.cell? ⟨w.heap.size, 0, none⟩ = some (.int .u8 op) := by rw [hwa]; exact (Row.new w _ _).cell 0
  have m1 : wa.cell? ⟨w.heap.size, 1, none⟩ = some (.int .i64 wd) := by rw [hwa]; exact (Row.new w _ _).cell 1
  have ha : wa.ownsRow (nb + 1) 110 2 v L.length (mks L) := by rw [hwa]; exact H2.out.alloc _
  have sa : Sm (fun b => nb ≤ b) w wa := by rw [hwa]; exact (Sm.refl _ _).alloc _
  have za : nb + 1 ≤ wa.heap.size := by rw [hwa, World.size_alloc]; omega
  rw [← hwa]
  have HA := Lib.hid ha
  have H1A := Lib.hid H1a
  clear hwa c0 c1 f1 ha H1a
  have hone : ∀ u ∈ [Value.int .u8 op, Value.int .i64 wd], u.oneCell' = true := by simp [Value.oneCell']
  have c1b : (wa.alloc (Obj.cells #[Value.int IntKind.u8 op, Value.int IntKind.i64 wd] 110)).cell? ⟨nb, 1, none⟩ = some v := (H1A.out.alloc _).cell 1
  go_region_law (refine step_append_own rfl (.tmp 16) (.tmp 18) 65 rfl (nb + 1) 110 i0 (.agg #[.int .u8 0, .int .i64 0]) 2 16 Try.underlying65 Hi.out Hz0.out Hz1.out Hz2.out rfl (by decide) v L.length (mks L) (by simp [Act.eval]) (HA.out.drew.alloc _) ⟨wa.heap.size, 0, none⟩ 1 1 [.int .u8 op, .int .i64 wd] (by simp [Act.eval]) rfl (new_cells wa.drew [.int .u8 op, .int .i64 wd] 110) hone (by unfold maxLen; omega) (by omega) (by simp; omega) ?_; intro v' w' hown' hg'; obtain ⟨g', cap', hv'⟩ := own_form hown' (by omega); subst hv'; have H1' := Lib.hid (((H1A.out.alloc _).drew).grown hg' (fun e => by have := (HA.out.lt nb e).1; omega)); have c1' : w'.cell? ⟨nb, 1, none⟩ = some v := H1'.out.cell 1; have f1' : w'.frozen? ⟨nb, 1, none⟩ = false := H1'.out.free 1)
  all_goals
    have H1' := Row.grown ((Row.alloc H1A.out _).drew) hg' (fun e => by have := (HA.out.lt nb e).1; omega)
    have hs' : Sm (fun b => nb ≤ b) wa w' := ((Sm.refl _ wa).alloc _).drew.trans (sm_grown hg' fun k e => by have := (HA.out.lt k e).1; omega)
    refine ⟨rfl, ⟨_, H1'.set 1 _, ?_⟩, sa.trans (hs'.setCell (Nat.le_refl _) _)⟩
    rw [mks_snoc, List.length_append]
    exact ownsRow_setCell_below hown' (by simp) _
/-- A gate at block nb that has been told L. -/
def NoteAt (nb : Nat) (L : List (Int × Int)) (u : World) : Prop := nb < u.heap.size ∧ Noted nb u L
instance ho_noteAt {nb : Nat} {L : List (Int × Int)} : HO (NoteAt nb L) := by
  have h1 : HO fun u : World => nb < u.heap.size := ho_size (p := fun k => nb < k)
  exact ho_and
def noteGate (nb : Nat) : Value := .iface 90 (.pointer (some ⟨nb, 0, none⟩))
set_option maxRecDepth 100000 in
set_option maxHeartbeats 1600000 in
/-- The gate that writes down. -/
theorem gateNote {J : Job} {M : World → Prop} {nb : Nat} (hm : HO M) (hf : ∀ a b, J.foot a b → b < nb) (hk : ∀ (a : J.St) (u u' : World), J.Rep a u → Sm (J.foot a) u u' → M u → M u') (hn : ∀ u u' : World, Sm (fun b => nb ≤ b) u u' → nb < u.heap.size → M u → M u') : Gate0 J W x (noteGate nb) (NoteAt nb) M where
  hg := fun _ => inferInstance
  hm := hm
  keep := fun a L u u' h1 h2 h3 => ⟨⟨Nat.lt_of_lt_of_le h3.1.1 h2.size, h3.1.2.sm h2 fun b hb hfb => by have := hf a b hfb; omega⟩, hk a u u' h1 h2 h3.2⟩
  step := fun w a L m Q hL h hq => by
    have O := envL_ok (W := W)
    refine cpsC_body O Try.func45 rfl ?_
    simp only [Try.ntmps45]
    refine cps_opaque fun Q' hQ => ?_
    unfold noteGate
    walk_nrm
    repeat refine cps_seq O ?_
    (refine cps_region O ?_; simp only [List.size_toArray, List.length_cons, List.length_nil, Nat.reduceAdd, Nat.zero_add, List.range, List.range.loop])
    refine valE O rfl (.iface 90 (.pointer (some ⟨nb, 0, none⟩))) rfl rfl (fun _ => by simp [go_sem]) (fun _ => by go_simp; try (first | rfl | (simp [*]))) ?_; try walk_nrm
    refine opK h (.bool true) rfl (by kernel_rfl) rfl (fun u hu _ => ⟨u, .inl (by go_simp), hu⟩) fun w1 h1 _ => ?_
    try walk_nrm
    refine cpsR_nil O ?_
    show cps _ _ _ _ _ _
    refine cps_cond O (v := true) rfl ?_
    simp only [if_true]
    (refine cps_region O ?_; simp only [List.size_toArray, List.length_cons, List.length_nil, Nat.reduceAdd, Nat.zero_add, List.range, List.range.loop])
    refine valE O rfl (.iface 90 (.pointer (some ⟨nb, 0, none⟩))) rfl rfl (fun _ => by simp [go_sem]) (fun _ => by go_simp; try (first | rfl | (simp [*]))) ?_; try walk_nrm
    refine valE O rfl (.int .u8 m.1) rfl rfl (fun _ => by simp [go_sem]) (fun _ => by go_simp; try (first | rfl | (simp [*]))) ?_; try walk_nrm
    refine valE O rfl (.int .i64 m.2) rfl rfl (fun _ => by simp [go_sem]) (fun _ => by go_simp; try (first | rfl | (simp [*]))) ?_; try walk_nrm
    refine valE O rfl (markV m) rfl rfl (fun _ => by simp [go_sem]) (fun _ => by go_simp; try (first | rfl | (simp [*]))) ?_; try walk_nrm
    refine cpsR_enter O (f := 119) (args := #[.pointer (some ⟨nb, 0, none⟩), markV m]) rfl rfl (fun w₁ _ => ⟨#[], ?_, O.still _ _⟩) ?_
    · rw [show (envL W).P = Try.prog from rfl, Sem.runT_eq]
      have hn0 := fun args w => run_callF (f := 119) Try.func119 (by kernel_rfl) rfl args w
      have hn1 := fun args w es => ev_callF (f := 119) Try.func119 (by kernel_rfl) rfl args w es
      have hr := fun k => note_run k nb
      have he := fun k => note_ev k nb
      refine Prod.ext ?_ ?_
      · simp [go_sem, execOp, Act.eval, hr, hn0, markV]
      · simp [go_sem, execOp, Act.eval, hr, he, hn0, hn1, markV]
    · refine cpsC_body O Try.func119 rfl ?_
      simp only [Try.ntmps119]
      have := hm
      refine aloneK (M' := fun _ u => J.Rep a u ∧ NoteAt nb (L ++ [m]) u ∧ M u) h1 (by kernel_rfl) (fun u hu => ?_) fun t' w' h' _ => ?_
      · refine wp_mono (note_body nb m.1 m.2 u L hL hu.2.1.2) fun e a' u' q => ?_
        cases e with
        | normal =>
          obtain ⟨q1, q2, q3⟩ := q
          refine ⟨q1, J.frame a u u' (fun b hb => ?_) hu.1, ⟨Nat.lt_of_lt_of_le hu.2.1.1 q3.size, q2⟩, hn u u' q3 hu.2.1.1 hu.2.2⟩
          have := hf a b hb
          exact q3.block b (by have := hu.2.1.1; omega) (by omega)
        | _ => exact q.elim
      · refine ⟨.inl rfl, .tuple #[], ret0E O rfl rfl, ?_⟩
        refine cpsR_nil O ?_
        exact hQ _ _ _ _ ⟨.inl rfl, .tuple #[], ret0E O rfl rfl, hq w' h'⟩
end
section
variable {W : Machine → Trace → Prop} {x : LX} {w : World} {S N n : Nat} {a : SSt} {g : Value} {G : List (Int × Int) → World → Prop} {M : World → Prop} {L : List (Int × Int)} {f : SSt × SRes × List (Int × Int)} {k : Nat}
theorem fin_at {J : Job} {x' : LX} {f : J.St × J.Res × List (Int × Int)} {m' : LX} {k' : Nat} {a' : J.St} {r : J.Res} {w' : World} (h : AtG J x' G M f m' k' a' (a', .inr r) w') : m' = x' ∧ a' = f.1 ∧ r = f.2.1 ∧ Kn x' (fun u => J.Rep f.1 u ∧ G f.2.2 u ∧ M u) w' := by
  obtain ⟨rfl, L', h1, _, h3⟩ := h
  rw [Job.fin_inr] at h1
  obtain rfl := Option.some.inj h1
  exact ⟨rfl, rfl, rfl, h3⟩
theorem pop_l (H : Gate0 (stkJob S N n) W x g G M) (h : Kn x (fun u => SRep S N n a u ∧ G L u ∧ M u) w) (hf : (stkJob S N n).fin k L (a, .inl (SPos.t1 0 .pop)) = some f) (hk : L.length + k < 1000000) {Q : LX → Value → World → Prop}
    (hq : ∀ w', Kn x (fun u => SRep S N n f.1 u ∧ G f.2.2 u ∧ M u) w' → Q x (.tuple #[.int .u64 f.2.1.num, .bool f.2.1.ok, .int .i64 0]) w') : cpsC (envL W) 14 #[.pointer (some ⟨S, 0, none⟩), g] Q x w :=
  pop_e (gated0 H f) (m := x) (k := k) (a := a) ⟨rfl, L, hf, hk, h⟩ (fun m' k' a' w' _ h' => by
    obtain ⟨e1, e2, e, h3⟩ := fin_at h'
    have := hq w' h3
    rw [← e] at this
    rw [e1]
    exact this) (fun m' k' a' w' y _ _ h' => by
    obtain ⟨e1, e2, e, h3⟩ := fin_at h'
    have := hq w' h3
    rw [← e] at this
    rw [e1]
    exact this)
theorem push_l (H : Gate0 (stkJob S N n) W x g G M) {v : Nat} (hv : v < 18446744073709551616) (h : Kn x (fun u => SRep S N n a u ∧ G L u ∧ M u) w) (hf : (stkJob S N n).fin k L (a, .inl (SPos.t1 1 (.push v))) = some f) (hk : L.length + k < 1000000) {Q : LX → Value → World → Prop}
    (hq : ∀ w', Kn x (fun u => SRep S N n f.1 u ∧ G f.2.2 u ∧ M u) w' → Q x (.tuple #[.bool f.2.1.ok, .int .i64 0]) w') : cpsC (envL W) 13 #[.pointer (some ⟨S, 0, none⟩), g, .int .u64 v] Q x w :=
  push_e (gated0 H f) hv (m := x) (k := k) (a := a) ⟨rfl, L, hf, hk, h⟩ (fun m' k' a' w' _ h' => by
    obtain ⟨e1, e2, e, h3⟩ := fin_at h'
    have := hq w' h3
    rw [← e] at this
    rw [e1]
    exact this) (fun m' k' a' w' _ h' => by
    obtain ⟨e1, e2, e, h3⟩ := fin_at h'
    have := hq w' h3
    rw [← e] at this
    rw [e1]
    exact this)
end
end Go.Proofs.Ytmcffabfghhpaaa
/- Marks and SameMarks, walked alone. -/
namespace Go.Proofs.Ytmcffabfghhpaaa
open Go.RowKit
set_option linter.unusedVariables false

theorem mks_get0 (L : List (Int × Int)) (k : Nat) (h : k < L.length) : (mks L)[2 * k]? = some (.int .u8 L[k].1) := by
  induction L generalizing k with
  | nil => simp at h
  | cons a l ih =>
    cases k with
    | zero => rfl
    | succ k =>
      have := ih k (by simpa using h)
      rw [show 2 * (k + 1) = 2 * k + 1 + 1 from by omega]
      simpa [mks] using this
theorem mks_get1 (L : List (Int × Int)) (k : Nat) (h : k < L.length) : (mks L)[2 * k + 1]? = some (.int .i64 L[k].2) := by
  induction L generalizing k with
  | nil => simp at h
  | cons a l ih =>
    cases k with
    | zero => rfl
    | succ k =>
      have := ih k (by simpa using h)
      rw [show 2 * (k + 1) + 1 = 2 * k + 1 + 1 + 1 from by omega]
      simpa [mks] using this

set_option maxHeartbeats 800000 in
theorem sameMarks_c (va vb : Value) (La Lb : List (Int × Int)) (w : World) (ha : w.ownsRow 0 110 2 va La.length (mks La)) (hb : w.ownsRow 0 110 2 vb Lb.length (mks Lb)) (hla : La.length < 1000000) :
    Calls Try.prog 36 #[va, vb] w fun e w' => e = .returned (.bool (decide (La = Lb))) ∧ Sm (fun _ => False) w w' := by
  obtain ⟨aa, ca, rfl⟩ := own_form0 ha
  obtain ⟨ab, cb, rfl⟩ := own_form0 hb
  by_cases hne : La.length = Lb.length
  · have hlt : (((La.length : Nat) : Int) != ((Lb.length : Nat) : Int)) = false := by simp [hne]
    have HNE := Lib.hid hne
    clear hne
    go_enter Try.func36, Try.ntmps36
    go_wp2
    clear hlt
    go_loopw [5] (fun s5 wr => ∃ k : Nat, k ≤ La.length ∧ s5 = .int .i64 k ∧ Hid (La.take k = Lb.take k) ∧ Sm (fun _ => False) w wr) (fun s5 _ => La.length - (intOf s5).toNat)
    case atStart => exact ⟨0, by omega, rfl, Lib.hid (by simp), Sm.refl _ _⟩
    case round =>
      obtain ⟨k, hk, rfl, hT, hS⟩ := hrel
      by_cases hlt : k < La.length
      · have hltb : k < Lb.length := by rw [← HNE.out]; exact hlt
        obtain ⟨ga, ca', hfa⟩ := own_form ha (by omega)
        obtain ⟨gb, cb', hfb⟩ := own_form hb (by omega)
        simp only [Value.slice.injEq] at hfa hfb
        obtain ⟨rfl, -, -⟩ := hfa
        obtain ⟨rfl, -, -⟩ := hfb
        have ha' := own_sm ha hS (fun _ _ h => h)
        have hb' := own_sm hb hS (fun _ _ h => h)
        have A0 : wr.cell? ⟨ga, k * 2, none⟩ = some (.int .u8 La[k].1) := by
          rw [ha'.cellAt (k * 2) (by omega), Nat.mul_comm]; exact mks_get0 La k hlt
        have A1 : wr.cell? ⟨ga, k * 2 + 1, none⟩ = some (.int .i64 La[k].2) := by
          rw [ha'.cellAt (k * 2 + 1) (by omega), Nat.mul_comm]; exact mks_get1 La k hlt
        have B0 : wr.cell? ⟨gb, k * 2, none⟩ = some (.int .u8 Lb[k].1) := by
          rw [hb'.cellAt (k * 2) (by omega), Nat.mul_comm]; exact mks_get0 Lb k hltb
        have B1 : wr.cell? ⟨gb, k * 2 + 1, none⟩ = some (.int .i64 Lb[k].2) := by
          rw [hb'.cellAt (k * 2 + 1) (by omega), Nat.mul_comm]; exact mks_get1 Lb k hltb
        obtain ⟨x0, hx0⟩ : ∃ x, x = La[k].1 := ⟨_, rfl⟩
        obtain ⟨x1, hx1⟩ : ∃ x, x = La[k].2 := ⟨_, rfl⟩
        obtain ⟨y0, hy0⟩ : ∃ x, x = Lb[k].1 := ⟨_, rfl⟩
        obtain ⟨y1, hy1⟩ : ∃ x, x = Lb[k].2 := ⟨_, rfl⟩
        rw [← hx0] at A0
        rw [← hx1] at A1
        rw [← hy0] at B0
        rw [← hy1] at B1
        have X0 := Lib.hid hx0
        have X1 := Lib.hid hx1
        have Y0 := Lib.hid hy0
        have Y1 := Lib.hid hy1
        have HA := Lib.hid ha
        have HB := Lib.hid hb
        clear hx0 hx1 hy0 hy1 ha hb ha' hb'
        have i0 : (0 : Int) ≤ (k : Int) := by omega
        have i1 : (k : Int) < (La.length : Int) := by omega
        have i2 : (k : Int) < (Lb.length : Int) := by omega
        have hsucc : x0 = y0 → x1 = y1 → Hid (La.take (k + 1) = Lb.take (k + 1)) := by
          intro e0 e1
          have h := hT.out
          apply Lib.hid
          rw [List.take_succ_eq_append_getElem hlt, List.take_succ_eq_append_getElem hltb, h]
          have : La[k] = Lb[k] := Prod.ext (by rw [← X0.out, ← Y0.out, e0]) (by rw [← X1.out, ← Y1.out, e1])
          rw [this]
        have hdiff : ¬ (x0 = y0 ∧ x1 = y1) → decide (La = Lb) = false := by
          intro hn
          rw [decide_eq_false_iff_not]
          intro e
          subst e
          exact hn ⟨by rw [X0.out, Y0.out], by rw [X1.out, Y1.out]⟩
        have HSU := Lib.hid hsucc
        have HDI := Lib.hid hdiff
        clear hsucc hdiff
        by_cases e0 : x0 = y0
        · by_cases e1 : x1 = y1
          · have E0 := Lib.hid e0
            have E1 := Lib.hid e1
            rw [← e0] at B0
            rw [← e1] at B1
            clear e0 e1
            go_wp2
            go_quiet (fail)
            go_wp2
            go_roundw
            case rel => exact ⟨k + 1, by omega, by go_num, HSU.out E0.out E1.out, hS.drewN _⟩
            case measure => simp [intOf]; omega
          · have E1 : (x1 == y1) = false := by simp [e1]
            have E0 := Lib.hid e0
            have EN := Lib.hid e1
            rw [← e0] at B0
            clear e0 e1
            go_wp2
            go_quiet (fail)
            go_wp2
            go_ret
            exact ⟨ret_bool (HDI.out (fun h => EN.out h.2)).symm, hS.drewN _⟩
        · have E0 : (x0 == y0) = false := by simp [e0]
          have EN := Lib.hid e0
          clear e0
          go_wp2
          go_quiet (fail)
          go_wp2
          go_ret
          exact ⟨ret_bool (HDI.out (fun h => EN.out h.1)).symm, hS.drewN _⟩
      · have hk' : k = La.length := by omega
        have HK := Lib.hid hk'
        have i1 : ¬ ((k : Int) < (La.length : Int)) := by omega
        clear hk'
        go_wp2
        go_ret
        refine ⟨?_, hS⟩
        have : La = Lb := by
          have h := hT.out
          rw [HK.out, List.take_length, HNE.out, List.take_length] at h
          exact h
        exact ret_bool (decide_eq_true this).symm
  · have hlt : (((La.length : Nat) : Int) != ((Lb.length : Nat) : Int)) = true := by simp; omega
    have hd : decide (La = Lb) = false := by
      rw [decide_eq_false_iff_not]
      exact fun e => hne (by rw [e])
    rw [hd]
    clear hne
    go_enter Try.func36, Try.ntmps36
    go_wp2
    go_ret
    exact ⟨rfl, Sm.refl _ _⟩
set_option maxRecDepth 100000 in
set_option maxHeartbeats 800000 in
theorem clone_c (v : Value) (L : List (Int × Int)) (b0 : Nat) (w : World) (hv : w.ownsRow b0 110 2 v L.length (mks L)) (hL : L.length < 1000000) :
    Calls Try.prog 65 #[v] w fun e w' => ∃ v', e = .returned v' ∧ w'.ownsRow w.heap.size 110 2 v' L.length (mks L) ∧ Sm (fun _ => False) w w' := by
  obtain ⟨i0, hi, hz0, hz1, hz2⟩ := info_parts info_mark
  obtain ⟨hl, hv | ⟨g, cap, cur, rfl, hg, hh, hn, hc, hsz, ht⟩⟩ := hv
  · obtain ⟨rfl, h0⟩ := hv
    have hq := fun wx => Lib.run_eql_slice_nil (P := Try.prog) wx 65 110 none 0 0 0 0 Try.underlying65
    go_enter Try.func65, Try.ntmps65
    go_wp2
    go_ret
    have e : L = [] := List.eq_nil_of_length_eq_zero h0
    subst e
    exact ⟨_, rfl, World.ownsRow_nil _ _ _ _, Sm.refl _ _⟩
  · have hq := fun wx => Lib.run_eql_slice_nil (P := Try.prog) wx 65 110 (some ⟨g, 0, none⟩) L.length cap 0 0 Try.underlying65
    have HO : Hid (w.ownsRow b0 110 2 (.slice (some ⟨g, 0, none⟩) L.length cap) L.length (mks L)) := ⟨hl, .inr ⟨g, cap, cur, rfl, hg, hh, hn, hc, hsz, ht⟩⟩
    have Hi := Lib.hid hi
    have Hz0 := Lib.hid hz0
    have Hz1 := Lib.hid hz1
    have Hz2 := Lib.hid hz2
    clear hl hg hh hn hc hsz ht hi hz0 hz1 hz2
    go_enter Try.func65, Try.ntmps65
    have HC : Hid (∀ (j : Nat) (u : Value), (mks L)[j]? = some u → (w.alloc (Obj.cells #[] 110)).cell? ((⟨g, 0, none⟩ : Addr).add j) = some u) := fun j u hj => (HO.out.alloc _).cells rfl j u hj
    have HW : Hid ((w.alloc (Obj.cells #[] 110)).ownsRow w.heap.size 110 2 (.slice (some ⟨w.heap.size, 0, none⟩) 0 0) 0 []) := World.ownsRow_lit w #[] 0 (Nat.le_refl _) (by unfold maxLen; omega) rfl
    have hone : ∀ u ∈ mks L, u.oneCell' = true := by
      intro u hu
      simp only [mks, List.mem_flatMap] at hu
      obtain ⟨p, _, hp⟩ := hu
      simp at hp
      rcases hp with rfl | rfl <;> rfl
    have HON := Lib.hid hone
    clear hone
    go_wp2_with (at_builtin; refine wpList_append_own _ rfl (.tmp 5) (.tmp 6) 65 rfl w.heap.size 110 i0 (.agg #[.int .u8 0, .int .i64 0]) 2 16 Try.underlying65 Hi.out Hz0.out Hz1.out Hz2.out rfl (by decide) _ 0 [] rfl HW.out ⟨g, 0, none⟩ L.length cap (mks L) rfl (mks_len L) HC.out HON.out (by unfold maxLen; omega) (by omega) (by simp) ?_; intro v' w1 hown' hgrow _)
    go_ret
    simp only [Nat.zero_add, List.nil_append] at hown'
    exact ⟨v', rfl, hown', sm_alloc_grown hgrow (fun k e => by cases e; exact Nat.le_refl _)⟩
theorem marks_c (nb : Nat) (L : List (Int × Int)) (w : World) (h : Noted nb w L) (hL : L.length < 1000000) :
    Calls Try.prog 37 #[.pointer (some ⟨nb, 0, none⟩)] w fun e w' => ∃ v', e = .returned v' ∧ w'.ownsRow w.heap.size 110 2 v' L.length (mks L) ∧ Sm (fun _ => False) w w' := by
  obtain ⟨v, h1, h2⟩ := h
  have c0 : w.cell? ⟨nb, 0, none⟩ = some (.bool true) := h1.cell 0
  have c1 : w.cell? ⟨nb, 1, none⟩ = some v := h1.cell 1
  have H := Lib.hid (clone_c v L (nb + 1) w h2 hL)
  clear h2
  go_enter Try.func37, Try.ntmps37
  go_wp2_with fail
  refine H.out.mono ?_
  rintro e w' ⟨v', rfl, h3, h4⟩
  have H3 := Lib.hid h3
  have H4 := Lib.hid h4
  clear h3 h4
  go_wp2
  go_ret
  exact ⟨_, rfl, H3.out, H4.out⟩
end Go.Proofs.Ytmcffabfghhpaaa
/- patchbaylaw08.awake, walked alone: true. -/
namespace Go.Proofs.Ytmcffabfghhpaaa
open Go.RowKit
set_option linter.unusedVariables false

theorem bits_two : bits .and .i64 ((2 : Nat) : Int) (((2 : Nat) : Int) - 1) = 0 := by decide

def awakeMarks : List (Int × Int) := [(1, 1), (1, 2), (5, 1), (2, 3), (1, 0), (2, 2), (5, 0)]

set_option maxRecDepth 100000 in
set_option maxHeartbeats 800000 in
theorem awake_c (w : World) :
    Calls Try.prog 10 #[] w fun e w' => e = .returned (.bool true) ∧ Sm (fun _ => False) w w' := by
  go_enter Try.func10, Try.ntmps10
  go_wp2_with fail
  refine (new_ok 2 (by decide) (by decide) bits_two w).mono ?_
  rintro e w1 ⟨rfl, hb1, hs1⟩
  have hz1 : w.heap.size + 2 ≤ w1.heap.size := by have := hs1.rS.lt; omega
  obtain ⟨S, hS⟩ : ∃ S, S = w.heap.size + 1 := ⟨_, rfl⟩
  obtain ⟨N, hN⟩ : ∃ N, N = w.heap.size := ⟨_, rfl⟩
  rw [← hS, ← hN] at hs1
  rw [← hS]
  have hm : Sm (fun _ => False) w w1 := ⟨hb1.os, hb1.tape, hb1.output, hb1.size, fun k hk _ => hb1.block k hk⟩
  have HS := Lib.hid hS
  have HN := Lib.hid hN
  clear hS hN
  go_wp2_with fail
  refine (newNotes_c w1).mono ?_
  rintro e w2 ⟨rfl, hb2, hn2, hz2⟩
  have hg2 : w1.heap.size < w2.heap.size ∧ Noted w1.heap.size w2 [] := ⟨by omega, hn2⟩
  have hs2 : Stk S N 2 0 1 (memK 2 1) w2 := { hs1 with rS := hs1.rS.sm hb2 (fun h => h), rN := hs1.rN.sm hb2 (fun h => h) }
  have hSN : N < w1.heap.size ∧ S < w1.heap.size := by rw [HS.out, HN.out]; omega
  have hBN : w.heap.size ≤ N ∧ w.heap.size ≤ S := by rw [HS.out, HN.out]; omega
  obtain ⟨nb, hnb⟩ : ∃ nb, nb = w1.heap.size := ⟨_, rfl⟩
  rw [← hnb] at hg2 hSN
  rw [← hnb]
  have HNB := Lib.hid hnb
  clear hnb hn2 hz2
  have G1 := gate_note w.heap.size S N nb hSN.2 hSN.1 (by rw [HNB.out]; omega)
  have G0 := gate_nilX w.heap.size S N (fun w => nb < w.heap.size ∧ Noted nb w awakeMarks) (fun w w' h k => ⟨Nat.lt_of_lt_of_le h.1 k.size, h.2.sm k (fun b hb => by omega)⟩)
  have P1 := Lib.hid (push_ok G1 hBN.2 hBN.1 2 0 1 0 2 0 (memK 2 1) 5 (by decide) w2 [] (by decide) hg2 hs2 (by decide) (by decide) (fun h => by revert h; decide) (by decide))
  have GG1 := Lib.hid G1
  have GG0 := Lib.hid G0
  clear G1 G0 hg2 hs2 hs1
  go_wp2_with fail
  refine P1.out.mono ?_
  rintro e w3 ⟨rfl, hg3, hb3, hs3⟩
  have HG3 := Lib.hid hg3
  have P2 := Lib.hid (push_ok GG0.out hBN.2 hBN.1 2 (fol 0 (0 + 1)) (fol 1 2) 1 0 1 (((memK 2 1).set (2 * 0 + 1) 5).set (2 * 0) 0) 6 (by decide) w3 [] (by decide) hg3 hs3 (by decide) (by decide) (fun h => by revert h; decide) (by decide))
  clear hg3 hs3
  go_wp2_with fail
  refine P2.out.mono ?_
  rintro e w4 ⟨rfl, hg4, hb4, hs4⟩
  have P3 := Lib.hid (push_full GG0.out 2 _ _ _ 7 w4 [] (by decide) hg4 hs4 (by decide))
  clear hs4 hg4
  go_wp2_with fail
  refine P3.out.mono ?_
  rintro e w5 ⟨rfl, hg5, hb5, hs5⟩
  have P4 := Lib.hid (pop_ok GG0.out hBN.2 hBN.1 2 _ _ 1 1 0 6 _ w5 [] (by decide) hg5 hs5 (by decide) (by decide) (fun h => by revert h; decide) (fun h => by revert h; decide) (by decide))
  clear hs5 hg5
  go_wp2_with fail
  refine P4.out.mono ?_
  rintro e w6 ⟨rfl, hg6, hb6, hs6⟩
  have HG6 := Lib.hid hg6
  clear hs6 hg6
  go_wp2_with fail
  refine (marks_c nb awakeMarks _ ((HG6.out.2).alloc _) (by decide)).mono ?_
  rintro e w7 ⟨v7, rfl, h7, hb7⟩
  have H7 := Lib.hid h7
  clear h7
  go_wp2_with fail
  have hrow : Row w7 w6.heap.size (mks awakeMarks).toArray 110 := (Row.new w6 (mks awakeMarks).toArray 110).sm hb7 (fun h => h)
  refine (sameMarks_c v7 _ awakeMarks awakeMarks w7 (own_zero H7.out) (own_row hrow 7 2 rfl (by unfold maxLen; omega)) (by decide)).mono ?_
  rintro e w8 ⟨rfl, hb8⟩
  go_wp2
  go_ret
  refine ⟨by simp, ?_⟩
  have hb : Below w.heap.size w w6 := ((((hb1.trans (hb2.below (by omega) (fun k h => h.elim))).trans hb3).trans hb4).trans hb5).trans hb6
  have hsm : Sm (fun _ => False) w w6 := ⟨hb.os, hb.tape, hb.output, hb.size, fun k hk _ => hb.block k hk⟩
  exact ((hsm.alloc _).trans hb7).trans hb8
end Go.Proofs.Ytmcffabfghhpaaa
/- Plain words: what stays where memory grows; awake, beside leavers. No condition. -/
namespace Go.Proofs.Ytmcffabfghhpaaa
open Go.Conc Go.RowKit
/-- Memory has grown: what was there stands. -/
structure Gr (u u' : World) : Prop where
  size : u.heap.size ≤ u'.heap.size
  block : ∀ b, b < u.heap.size → u'.heap[b]? = u.heap[b]?
  os : u'.os = u.os
  out : u'.output = u.output
theorem Gr.refl (u : World) : Gr u u := ⟨Nat.le_refl _, fun _ _ => rfl, rfl, rfl⟩
theorem Gr.trans {a b c : World} (h : Gr a b) (k : Gr b c) : Gr a c := ⟨Nat.le_trans h.size k.size, fun x hx => (k.block x (Nat.lt_of_lt_of_le hx h.size)).trans (h.block x hx), k.os.trans h.os, k.out.trans h.out⟩
theorem Gr.of_sm {F : Nat → Prop} {w u u' : World} (h : Gr w u) (k : Sm F u u') (hF : ∀ b, F b → w.heap.size ≤ b) : Gr w u' :=
  ⟨Nat.le_trans h.size k.size, fun x hx => (k.block x (Nat.lt_of_lt_of_le hx h.size) (fun hf => by have := hF x hf; omega)).trans (h.block x hx), k.os.trans h.os, k.output.trans h.out⟩
theorem Gr.of_sm0 {F : Nat → Prop} {u u' : World} (k : Sm F u u') (hF : ∀ b, F b → u.heap.size ≤ b) : Gr u u' := (Gr.refl u).of_sm k hF
theorem Gr.of_below {u u' : World} (k : Below u.heap.size u u') : Gr u u' := ⟨k.size, k.block, k.os, k.output⟩
/-- .. so does this. -/
class GM (M : World → Prop) : Prop where
  keep : ∀ u u' : World, Gr u u' → M u → M u'
instance (priority := low) gm_ho {M : World → Prop} [GM M] : HO M := ⟨fun u u' h1 h2 h3 q => GM.keep u u' ⟨by rw [h1]; exact Nat.le_refl _, fun b _ => by rw [h1], h2, h3⟩ q⟩
instance gm_and {A B : World → Prop} [GM A] [GM B] : GM fun u => A u ∧ B u := ⟨fun u u' h q => ⟨GM.keep u u' h q.1, GM.keep u u' h q.2⟩⟩
instance gm_ex {α : Sort _} {A : α → World → Prop} [h : ∀ x, GM (A x)] : GM fun u => ∃ x, A x u := ⟨fun u u' e q => q.imp fun x hx => (h x).keep u u' e hx⟩
instance gm_const {p : Prop} : GM fun _ => p := ⟨fun _ _ _ q => q⟩
instance gm_row {b : Nat} {c : Array Value} {t : TypeId} : GM fun u => Row u b c t := ⟨fun u u' h q => by
  have := h.block b q.lt
  unfold Row at *
  rw [this]; exact q⟩
instance gm_own {b : Nat} {e : TypeId} {s : Nat} {v : Value} {n : Nat} {xs : List Value} : GM fun u => u.ownsRow b e s v n xs := ⟨fun u u' h q => ownsRow_of q fun c hc => h.block c (q.lt c hc).2⟩
instance gm_gr {w : World} : GM fun u => Gr w u := ⟨fun _ _ h q => q.trans h⟩
instance gm_rep {J : Job} {a : J.St} : GM (J.Rep a) := ⟨fun u u' h q => J.frame a u u' (fun b hb => by
  obtain ⟨o, ho, _⟩ := J.real a u b q hb
  exact h.block b (Array.getElem?_eq_some_iff.1 ho).1) q⟩
instance gm_srep {S N n : Nat} {a : SSt} : GM (SRep S N n a) := gm_rep (J := stkJob S N n)
/-- What was known ahead of a call that has taken memory since. -/
def Since (B : Nat) (M : World → Prop) (u : World) : Prop := ∃ u0, M u0 ∧ Gr u0 u ∧ u0.heap.size = B
instance ho_since {B : Nat} {M : World → Prop} : HO (Since B M) := ⟨fun u u' h1 h2 h3 q => by
  obtain ⟨u0, q1, q2, q3⟩ := q
  exact ⟨u0, q1, q2.trans ⟨by rw [h1]; exact Nat.le_refl _, fun b _ => by rw [h1], h2, h3⟩, q3⟩⟩
theorem Since.now {B : Nat} {M : World → Prop} [GM M] {u : World} (h : Since B M u) : M u := by
  obtain ⟨u0, q1, q2, q3⟩ := h
  exact GM.keep u0 u q2 q1
theorem Since.sm {B : Nat} {M : World → Prop} {F : Nat → Prop} {u u' : World} (h : Since B M u) (k : Sm F u u') (hF : ∀ b, F b → B ≤ b) : Since B M u' := by
  obtain ⟨u0, q1, q2, q3⟩ := h
  exact ⟨u0, q1, q2.of_sm k (by rw [q3]; exact hF), q3⟩
section
variable {W : Machine → Trace → Prop} {x : LX} {M : World → Prop} {w : World} {Q : LX → Value → World → Prop}
theorem Kn.since (h : Kn x M w) : Kn x (Since w.heap.size M) w := ⟨h.real, fun u hu => ⟨u, h.on u hu, Gr.refl u, hu.size⟩⟩
theorem stk_rep {S N n t0 t1 : Nat} {m : List Nat} {u : World} (h : Stk S N n t0 t1 m u) (h0 : t0 % 4294967296 ≤ n) (h1 : t1 % 4294967296 ≤ n) (hm : m.all (fun v => decide (v ≤ n)) = true) : SRep S N n ⟨t0, t1, m⟩ u := by
  have hle := h.le
  have key : ∀ i (hi : i < m.length), m[i] ≤ n := fun i hi => by
    rw [List.all_eq_true] at hm
    simpa using hm _ (List.getElem_mem hi)
  exact ⟨h, h0, h1, fun i hi => key _ hi, fun i hi => by have := key _ hi; show m[2 * i + 1] < _; omega⟩
end
end Go.Proofs.Ytmcffabfghhpaaa
/- Plain words: patchbaylaw08.awake, by goroutine 0, beside leavers. No condition. -/
namespace Go.Proofs.Ytmcffabfghhpaaa
open Go.Conc Go.RowKit
section
variable {W : Machine → Trace → Prop} {x : LX} {M : World → Prop} {w : World}
def aw0 : SSt := ⟨0, 1, [2, 0, 0, 0]⟩
def aw1 : SSt := ⟨4294967297, 4294967298, [0, 5, 0, 0]⟩
def aw2 : SSt := ⟨8589934594, 8589934592, [0, 5, 1, 6]⟩
def aw3 : SSt := ⟨12884901889, 12884901890, [0, 5, 0, 6]⟩
theorem mem21 : memK 2 1 = [2, 0, 0, 0] := by decide
theorem mi_note (a : Option Addr) (w : World) : Sem.events Try.prog (Instr.makeInterface 90 (.pointer a)) w #[] = #[] := by kernel_rfl
theorem since_new {B : Nat} {u u' : World} (h : M u) (hb : Below u.heap.size u u') (hB : u.heap.size = B) : Since B M u' := ⟨u, h, Gr.of_below hb, hB⟩
set_option maxRecDepth 100000 in
set_option maxHeartbeats 4000000 in
theorem awake_l [GM M] (h : Kn x M w) {Q : LX → Value → World → Prop} (hq : ∀ w', Kn x M w' → w.heap.size ≤ w'.heap.size → Q x (.bool true) w') : cpsC (envL W) 10 #[] Q x w := by
  have O := envL_ok (W := W)
  obtain ⟨B, hB⟩ : ∃ B, B = w.heap.size := ⟨_, rfl⟩
  rw [← hB] at hq
  have Hq := Lib.hid hq
  clear hq
  refine cpsC_body O Try.func10 rfl ?_
  simp only [Try.ntmps10]
  refine cps_opaque fun Q' hQ => ?_
  walk_nrm
  repeat refine cps_seq O ?_
  (refine cps_region O ?_; simp only [List.size_toArray, List.length_cons, List.length_nil, Nat.reduceAdd, Nat.zero_add, List.range, List.range.loop])
  refine valE O rfl (.bool false) rfl rfl (fun _ => by simp [go_sem]) (fun _ => by go_simp; try (first | rfl | (simp [*]))) ?_; try walk_nrm
  refine cpsR_nil O ?_
  show cps _ _ _ _ _ _
  repeat refine cps_seq O ?_
  (refine cps_region O ?_; simp only [List.size_toArray, List.length_cons, List.length_nil, Nat.reduceAdd, Nat.zero_add, List.range, List.range.loop])
  refine opCallK (f := 12) (vals := #[.int .i64 2]) (M' := fun v u => v = .tuple #[.pointer (some ⟨B + 1, 0, none⟩), .int .i64 0] ∧ SRep (B + 1) B 2 aw0 u ∧ Since B M u ∧ B + 2 ≤ u.heap.size) (hM := fun v => by have h1 : HO fun u : World => B + 2 ≤ u.heap.size := ho_size (p := fun k => B + 2 ≤ k); exact inferInstance) h (by kernel_rfl) rfl rfl rfl Try.func12 rfl rfl rfl (fun u hu hs => ?_) fun v w1 h1 _ => ?_
  · refine (new_ok 2 (by decide) (by decide) bits_two u).mono ?_
    rintro e u' ⟨rfl, hb1, hs1⟩
    rw [hs, ← hB, mem21] at hs1
    refine ⟨_, rfl, by rw [hs, ← hB], stk_rep hs1 (by decide) (by decide) (by decide), since_new hu hb1 (by rw [hs, hB]), ?_⟩
    have := hs1.rS.lt
    omega
  clear h
  obtain rfl : v = .tuple #[.pointer (some ⟨B + 1, 0, none⟩), .int .i64 0] := by obtain ⟨u, _, hu⟩ := h1.get; exact hu.1
  have hBw : B + 2 ≤ w1.heap.size := by obtain ⟨u, hp, hu⟩ := h1.get; rw [← hp.size]; exact hu.2.2.2
  have h1 : Kn x (fun u => SRep (B + 1) B 2 aw0 u ∧ Since B M u) w1 := h1.mono fun u hu => ⟨hu.2.1, hu.2.2.1⟩
  try walk_nrm
  refine valE O rfl (.tuple #[.pointer (some ⟨B + 1, 0, none⟩), .int .i64 0]) rfl rfl (fun _ => by simp [go_sem]) (fun _ => by go_simp; try (first | rfl | (simp [*]))) ?_; try walk_nrm
  refine valE O rfl (.pointer (some ⟨B + 1, 0, none⟩)) rfl rfl (fun _ => by simp [go_sem]) (fun _ => by go_simp; try (first | rfl | (simp [*]))) ?_; try walk_nrm
  refine valE O rfl (.int .i64 0) rfl rfl (fun _ => by simp [go_sem]) (fun _ => by go_simp; try (first | rfl | (simp [*]))) ?_; try walk_nrm
  refine valE O rfl (.pointer (some ⟨B + 1, 0, none⟩)) rfl rfl (fun _ => by simp [go_sem]) (fun _ => by go_simp; try (first | rfl | (simp [*]))) ?_; try walk_nrm
  refine valE O rfl (.int .i64 0) rfl rfl (fun _ => by simp [go_sem]) (fun _ => by go_simp; try (first | rfl | (simp [*]))) ?_; try walk_nrm
  refine cpsR_nil O ?_
  show cps _ _ _ _ _ _
  repeat refine cps_seq O ?_
  (refine cps_region O ?_; simp only [List.size_toArray, List.length_cons, List.length_nil, Nat.reduceAdd, Nat.zero_add, List.range, List.range.loop])
  refine valE O rfl (.int .i64 0) rfl rfl (fun _ => by simp [go_sem]) (fun _ => by go_simp; try (first | rfl | (simp [*]))) ?_; try walk_nrm
  refine valE O rfl (.bool false) rfl rfl (fun _ => by simp [go_sem]) (fun _ => by go_simp; try (first | rfl | (simp [*]))) ?_; try walk_nrm
  refine valE O rfl (.bool false) rfl rfl (fun _ => by simp [go_sem]) (fun _ => by go_simp; try (first | rfl | (simp [*]))) ?_; try walk_nrm
  refine valE O rfl (.pointer (some ⟨B + 1, 0, none⟩)) rfl rfl (fun _ => by simp [go_sem]) (fun _ => by go_simp; try (first | rfl | (simp [*]))) ?_; try walk_nrm
  refine opK h1 (.bool false) rfl (by kernel_rfl) rfl (fun u hu _ => ⟨u, .inl (by go_simp), hu⟩) fun w1' h1 hsz => ?_
  try walk_nrm
  have hBw : B + 2 ≤ w1'.heap.size := by omega
  clear hsz
  obtain ⟨w1, rfl⟩ : ∃ w, w = w1' := ⟨_, rfl⟩
  refine valE O rfl (.bool false) rfl rfl (fun _ => by simp [go_sem]) (fun _ => by go_simp; try (first | rfl | (simp [*]))) ?_; try walk_nrm
  refine cpsR_nil O ?_
  show cps _ _ _ _ _ _
  refine cps_cond O (v := false) rfl ?_
  simp only [Bool.false_eq_true, if_false]
  refine cps_skip O ?_
  show cps _ _ _ _ _ _
  repeat refine cps_seq O ?_
  (refine cps_region O ?_; simp only [List.size_toArray, List.length_cons, List.length_nil, Nat.reduceAdd, Nat.zero_add, List.range, List.range.loop])
  obtain ⟨nb, hnb⟩ : ∃ nb, nb = w1.heap.size := ⟨_, rfl⟩
  refine opCallK (f := 35) (vals := #[]) (M' := fun v u => v = .pointer (some ⟨nb, 0, none⟩) ∧ SRep (B + 1) B 2 aw0 u ∧ NoteAt nb [] u ∧ Since B M u) (hM := fun v => by have h1 : HO (NoteAt nb []) := ho_noteAt; have h2 : HO (SRep (B + 1) B 2 aw0) := inferInstance; have h3 : HO (Since B M) := inferInstance; have h4 : HO fun u => NoteAt nb [] u ∧ Since B M u := inferInstance; have h5 : HO fun u => SRep (B + 1) B 2 aw0 u ∧ NoteAt nb [] u ∧ Since B M u := inferInstance; exact inferInstance) h1 (by kernel_rfl) rfl rfl rfl Try.func35 rfl rfl rfl (fun u hu hs => ?_) fun v w2 h2 _ => ?_
  · refine (newNotes_c u).mono ?_
    rintro e u' ⟨rfl, hb1, hn1, hz1⟩
    rw [hs, ← hnb] at hn1
    refine ⟨_, rfl, by rw [hs, ← hnb], GM.keep u u' (Gr.of_sm0 hb1 fun _ h => h.elim) hu.1, ⟨by omega, hn1⟩, hu.2.sm hb1 fun _ h => h.elim⟩
  clear h1
  obtain rfl : v = .pointer (some ⟨nb, 0, none⟩) := by obtain ⟨u, _, hu⟩ := h2.get; exact hu.1
  have h2 : Kn x (fun u => SRep (B + 1) B 2 aw0 u ∧ NoteAt nb [] u ∧ Since B M u) w2 := h2.mono fun u hu => hu.2
  have hnB : B + 2 ≤ nb := by omega
  clear hnb
  have G1 : Gate0 (stkJob (B + 1) B 2) W x (noteGate nb) (NoteAt nb) (Since B M) := gateNote inferInstance (fun a b hb => by rcases hb with rfl | rfl <;> omega) (fun a u u' _ k hm => hm.sm k fun b hb => by rcases hb with rfl | rfl <;> omega) (fun u u' k _ hm => hm.sm k fun b hb => by omega)
  have G0 : Gate0 (stkJob (B + 1) B 2) W x .nilIface (fun _ _ => True) (fun u => NoteAt nb awakeMarks u ∧ Since B M u) := gateNil inferInstance fun a u u' _ k hm => ⟨⟨Nat.lt_of_lt_of_le hm.1.1 k.size, hm.1.2.sm k fun b hb hf => by rcases hf with rfl | rfl <;> omega⟩, hm.2.sm k fun b hb => by rcases hb with rfl | rfl <;> omega⟩
  try walk_nrm
  refine valE O rfl (.pointer (some ⟨nb, 0, none⟩)) rfl rfl (fun _ => by simp [go_sem]) (fun _ => by go_simp; try (first | rfl | (simp [*]))) ?_; try walk_nrm
  refine cpsR_nil O ?_
  show cps _ _ _ _ _ _
  repeat refine cps_seq O ?_
  (refine cps_region O ?_; simp only [List.size_toArray, List.length_cons, List.length_nil, Nat.reduceAdd, Nat.zero_add, List.range, List.range.loop])
  refine valE O rfl (.pointer (some ⟨B + 1, 0, none⟩)) rfl rfl (fun _ => by simp [go_sem]) (fun _ => by go_simp; try (first | rfl | (simp [*]))) ?_; try walk_nrm
  refine valE O rfl (.pointer (some ⟨nb, 0, none⟩)) rfl rfl (fun _ => by simp [go_sem]) (fun _ => by go_simp; try (first | rfl | (simp [*]))) ?_; try walk_nrm
  refine valE O rfl (noteGate nb) rfl rfl (fun _ => by simp [go_sem, mi_note]) (fun _ => by go_simp; try rfl) ?_
  try walk_nrm
  refine callE O rfl (f := 13) (vals := #[.pointer (some ⟨B + 1, 0, none⟩), noteGate nb, .int .u64 5]) rfl rfl rfl Try.func13 rfl rfl rfl ?_
  refine push_l (v := 5) (k := 20) (f := (aw1, .done .push, awakeMarks)) G1 (by decide) h2 (by kernel_rfl) (by decide) fun w3 h3 => ?_
  clear h2
  have h3 : Kn x (fun u => SRep (B + 1) B 2 aw1 u ∧ True ∧ NoteAt nb awakeMarks u ∧ Since B M u) w3 := h3.mono fun u hu => ⟨hu.1, trivial, hu.2.1, hu.2.2⟩
  simp only [SRes.ok]
  try walk_nrm
  refine valE O rfl (.tuple #[.bool true, .int .i64 0]) rfl rfl (fun _ => by simp [go_sem]) (fun _ => by go_simp; try (first | rfl | (simp [*]))) ?_; try walk_nrm
  refine valE O rfl (.bool true) rfl rfl (fun _ => by simp [go_sem]) (fun _ => by go_simp; try (first | rfl | (simp [*]))) ?_; try walk_nrm
  refine valE O rfl (.int .i64 0) rfl rfl (fun _ => by simp [go_sem]) (fun _ => by go_simp; try (first | rfl | (simp [*]))) ?_; try walk_nrm
  refine valE O rfl (.bool true) rfl rfl (fun _ => by simp [go_sem]) (fun _ => by go_simp; try (first | rfl | (simp [*]))) ?_; try walk_nrm
  refine valE O rfl (.int .i64 0) rfl rfl (fun _ => by simp [go_sem]) (fun _ => by go_simp; try (first | rfl | (simp [*]))) ?_; try walk_nrm
  refine cpsR_nil O ?_
  show cps _ _ _ _ _ _
  repeat refine cps_seq O ?_
  (refine cps_region O ?_; simp only [List.size_toArray, List.length_cons, List.length_nil, Nat.reduceAdd, Nat.zero_add, List.range, List.range.loop])
  refine valE O rfl (.pointer (some ⟨B + 1, 0, none⟩)) rfl rfl (fun _ => by simp [go_sem]) (fun _ => by go_simp; try (first | rfl | (simp [*]))) ?_; try walk_nrm
  refine callE O rfl (f := 13) (vals := #[.pointer (some ⟨B + 1, 0, none⟩), .nilIface, .int .u64 6]) rfl rfl rfl Try.func13 rfl rfl rfl ?_
  refine push_l (v := 6) (k := 20) (L := []) (f := (aw2, .done .push, [(1, 1), (1, 4), (5, 1), (2, 5), (1, 0), (2, 4), (5, 0)])) G0 (by decide) h3 (by kernel_rfl) (by decide) fun w4 h4 => ?_
  clear h3
  simp only [SRes.ok]
  try walk_nrm
  refine valE O rfl (.tuple #[.bool true, .int .i64 0]) rfl rfl (fun _ => by simp [go_sem]) (fun _ => by go_simp; try (first | rfl | (simp [*]))) ?_; try walk_nrm
  refine valE O rfl (.bool true) rfl rfl (fun _ => by simp [go_sem]) (fun _ => by go_simp; try (first | rfl | (simp [*]))) ?_; try walk_nrm
  refine valE O rfl (.int .i64 0) rfl rfl (fun _ => by simp [go_sem]) (fun _ => by go_simp; try (first | rfl | (simp [*]))) ?_; try walk_nrm
  refine valE O rfl (.bool true) rfl rfl (fun _ => by simp [go_sem]) (fun _ => by go_simp; try (first | rfl | (simp [*]))) ?_; try walk_nrm
  refine valE O rfl (.int .i64 0) rfl rfl (fun _ => by simp [go_sem]) (fun _ => by go_simp; try (first | rfl | (simp [*]))) ?_; try walk_nrm
  refine cpsR_nil O ?_
  show cps _ _ _ _ _ _
  repeat refine cps_seq O ?_
  (refine cps_region O ?_; simp only [List.size_toArray, List.length_cons, List.length_nil, Nat.reduceAdd, Nat.zero_add, List.range, List.range.loop])
  refine valE O rfl (.pointer (some ⟨B + 1, 0, none⟩)) rfl rfl (fun _ => by simp [go_sem]) (fun _ => by go_simp; try (first | rfl | (simp [*]))) ?_; try walk_nrm
  refine callE O rfl (f := 13) (vals := #[.pointer (some ⟨B + 1, 0, none⟩), .nilIface, .int .u64 7]) rfl rfl rfl Try.func13 rfl rfl rfl ?_
  refine push_l (v := 7) (k := 20) (L := []) (f := (aw2, .none (.push 7), [(1, 1)])) G0 (by decide) h4 (by kernel_rfl) (by decide) fun w5 h5 => ?_
  clear h4
  simp only [SRes.ok]
  try walk_nrm
  refine valE O rfl (.tuple #[.bool false, .int .i64 0]) rfl rfl (fun _ => by simp [go_sem]) (fun _ => by go_simp; try (first | rfl | (simp [*]))) ?_; try walk_nrm
  refine valE O rfl (.bool false) rfl rfl (fun _ => by simp [go_sem]) (fun _ => by go_simp; try (first | rfl | (simp [*]))) ?_; try walk_nrm
  refine valE O rfl (.int .i64 0) rfl rfl (fun _ => by simp [go_sem]) (fun _ => by go_simp; try (first | rfl | (simp [*]))) ?_; try walk_nrm
  refine valE O rfl (.bool false) rfl rfl (fun _ => by simp [go_sem]) (fun _ => by go_simp; try (first | rfl | (simp [*]))) ?_; try walk_nrm
  refine valE O rfl (.int .i64 0) rfl rfl (fun _ => by simp [go_sem]) (fun _ => by go_simp; try (first | rfl | (simp [*]))) ?_; try walk_nrm
  refine cpsR_nil O ?_
  show cps _ _ _ _ _ _
  repeat refine cps_seq O ?_
  (refine cps_region O ?_; simp only [List.size_toArray, List.length_cons, List.length_nil, Nat.reduceAdd, Nat.zero_add, List.range, List.range.loop])
  refine valE O rfl (.pointer (some ⟨B + 1, 0, none⟩)) rfl rfl (fun _ => by simp [go_sem]) (fun _ => by go_simp; try (first | rfl | (simp [*]))) ?_; try walk_nrm
  refine callE O rfl (f := 14) (vals := #[.pointer (some ⟨B + 1, 0, none⟩), .nilIface]) rfl rfl rfl Try.func14 rfl rfl rfl ?_
  refine pop_l (k := 20) (L := []) (f := (aw3, .done (.pop 6), [(1, 0), (1, 4), (5, 0), (1, 5), (1, 1), (2, 4), (5, 1)])) G0 h5 (by kernel_rfl) (by decide) fun w6 h6 => ?_
  clear h5 G0 G1
  have h6 : Kn x (fun u => NoteAt nb awakeMarks u ∧ Since B M u) w6 := h6.mono fun u hu => hu.2.2
  simp only [SRes.ok, SRes.num]
  try walk_nrm
  refine valE O rfl (.tuple #[.int .u64 6, .bool true, .int .i64 0]) rfl rfl (fun _ => by simp [go_sem]) (fun _ => by go_simp; try (first | rfl | (simp [*]))) ?_; try walk_nrm
  refine valE O rfl (.int .u64 6) rfl rfl (fun _ => by simp [go_sem]) (fun _ => by go_simp; try (first | rfl | (simp [*]))) ?_; try walk_nrm
  refine valE O rfl (.bool true) rfl rfl (fun _ => by simp [go_sem]) (fun _ => by go_simp; try (first | rfl | (simp [*]))) ?_; try walk_nrm
  refine valE O rfl (.int .i64 0) rfl rfl (fun _ => by simp [go_sem]) (fun _ => by go_simp; try (first | rfl | (simp [*]))) ?_; try walk_nrm
  refine valE O rfl (.int .u64 6) rfl rfl (fun _ => by simp [go_sem]) (fun _ => by go_simp; try (first | rfl | (simp [*]))) ?_; try walk_nrm
  refine valE O rfl (.bool true) rfl rfl (fun _ => by simp [go_sem]) (fun _ => by go_simp; try (first | rfl | (simp [*]))) ?_; try walk_nrm
  refine valE O rfl (.int .i64 0) rfl rfl (fun _ => by simp [go_sem]) (fun _ => by go_simp; try (first | rfl | (simp [*]))) ?_; try walk_nrm
  refine cpsR_nil O ?_
  show cps _ _ _ _ _ _
  repeat refine cps_seq O ?_
  obtain ⟨mb, hmb⟩ : ∃ mb, mb = w6.heap.size := ⟨_, rfl⟩
  (refine cps_region O ?_; simp only [List.size_toArray, List.length_cons, List.length_nil, Nat.reduceAdd, Nat.zero_add, List.range, List.range.loop])
  refine valE O rfl (markV (1, 1)) rfl rfl (fun _ => by simp [go_sem]) (fun _ => by go_simp; try (first | rfl | (simp [*]))) ?_; try walk_nrm
  refine valE O rfl (markV (1, 2)) rfl rfl (fun _ => by simp [go_sem]) (fun _ => by go_simp; try (first | rfl | (simp [*]))) ?_; try walk_nrm
  refine valE O rfl (markV (5, 1)) rfl rfl (fun _ => by simp [go_sem]) (fun _ => by go_simp; try (first | rfl | (simp [*]))) ?_; try walk_nrm
  refine valE O rfl (markV (2, 3)) rfl rfl (fun _ => by simp [go_sem]) (fun _ => by go_simp; try (first | rfl | (simp [*]))) ?_; try walk_nrm
  refine valE O rfl (markV (1, 0)) rfl rfl (fun _ => by simp [go_sem]) (fun _ => by go_simp; try (first | rfl | (simp [*]))) ?_; try walk_nrm
  refine valE O rfl (markV (2, 2)) rfl rfl (fun _ => by simp [go_sem]) (fun _ => by go_simp; try (first | rfl | (simp [*]))) ?_; try walk_nrm
  refine valE O rfl (markV (5, 0)) rfl rfl (fun _ => by simp [go_sem]) (fun _ => by go_simp; try (first | rfl | (simp [*]))) ?_; try walk_nrm
  refine opK (M' := fun u => NoteAt nb awakeMarks u ∧ Row u mb (mks awakeMarks).toArray 110 ∧ Since B M u) h6 (.slice (some ⟨mb, 0, none⟩) 7 7) rfl (by kernel_rfl) rfl (fun u hu hs => ⟨u.alloc (Obj.cells (mks awakeMarks).toArray 110), .inl ?_, ?_⟩) fun w7 h7 _ => ?_
  · rw [hmb, ← hs]
    unfold markV mks awakeMarks
    go_simp
  · have hsm : Sm (fun _ => False) u (u.alloc (Obj.cells (mks awakeMarks).toArray 110)) := (Sm.refl _ _).alloc _
    refine ⟨⟨Nat.lt_of_lt_of_le hu.1.1 hsm.size, hu.1.2.sm hsm fun _ _ h => h⟩, ?_, hu.2.sm hsm fun _ h => h.elim⟩
    rw [hmb, ← hs]
    exact Row.new u _ _
  clear h6 hmb
  try walk_nrm
  refine valE O rfl (.slice (some ⟨mb, 0, none⟩) 7 7) rfl rfl (fun _ => by simp [go_sem]) (fun _ => by go_simp; try (first | rfl | (simp [*]))) ?_; try walk_nrm
  refine cpsR_nil O ?_
  show cps _ _ _ _ _ _
  repeat refine cps_seq O ?_
  (refine cps_region O ?_; simp only [List.size_toArray, List.length_cons, List.length_nil, Nat.reduceAdd, Nat.zero_add, List.range, List.range.loop])
  refine valE O rfl (.int .i64 0) rfl rfl (fun _ => by simp [go_sem]) (fun _ => by go_simp; try (first | rfl | (simp [*]))) ?_; try walk_nrm
  refine valE O rfl (.bool true) rfl rfl (fun _ => by simp [go_sem]) (fun _ => by go_simp; try (first | rfl | (simp [*]))) ?_; try walk_nrm
  refine valE O rfl (.bool true) rfl rfl (fun _ => by simp [go_sem]) (fun _ => by go_simp; try (first | rfl | (simp [*]))) ?_; try walk_nrm
  refine valE O rfl (.bool true) rfl rfl (fun _ => by simp [go_sem]) (fun _ => by go_simp; try (first | rfl | (simp [*]))) ?_; try walk_nrm
  refine valE O rfl (.bool true) rfl rfl (fun _ => by simp [go_sem]) (fun _ => by go_simp; try (first | rfl | (simp [*]))) ?_; try walk_nrm
  refine valE O rfl (.bool true) rfl rfl (fun _ => by simp [go_sem]) (fun _ => by go_simp; try (first | rfl | (simp [*]))) ?_; try walk_nrm
  refine valE O rfl (.bool true) rfl rfl (fun _ => by simp [go_sem]) (fun _ => by go_simp; try (first | rfl | (simp [*]))) ?_; try walk_nrm
  refine valE O rfl (.bool true) rfl rfl (fun _ => by simp [go_sem]) (fun _ => by go_simp; try (first | rfl | (simp [*]))) ?_; try walk_nrm
  refine valE O rfl (.bool true) rfl rfl (fun _ => by simp [go_sem]) (fun _ => by go_simp; try (first | rfl | (simp [*]))) ?_; try walk_nrm
  refine valE O rfl (.bool false) rfl rfl (fun _ => by simp [go_sem]) (fun _ => by go_simp; try (first | rfl | (simp [*]))) ?_; try walk_nrm
  refine valE O rfl (.bool true) rfl rfl (fun _ => by simp [go_sem]) (fun _ => by go_simp; try (first | rfl | (simp [*]))) ?_; try walk_nrm
  refine valE O rfl (.bool true) rfl rfl (fun _ => by simp [go_sem]) (fun _ => by go_simp; try (first | rfl | (simp [*]))) ?_; try walk_nrm
  refine valE O rfl (.bool true) rfl rfl (fun _ => by simp [go_sem]) (fun _ => by go_simp; try (first | rfl | (simp [*]))) ?_; try walk_nrm
  refine valE O rfl (.int .i64 0) rfl rfl (fun _ => by simp [go_sem]) (fun _ => by go_simp; try (first | rfl | (simp [*]))) ?_; try walk_nrm
  refine valE O rfl (.bool true) rfl rfl (fun _ => by simp [go_sem]) (fun _ => by go_simp; try (first | rfl | (simp [*]))) ?_; try walk_nrm
  refine valE O rfl (.bool true) rfl rfl (fun _ => by simp [go_sem]) (fun _ => by go_simp; try (first | rfl | (simp [*]))) ?_; try walk_nrm
  refine valE O rfl (.bool true) rfl rfl (fun _ => by simp [go_sem]) (fun _ => by go_simp; try (first | rfl | (simp [*]))) ?_; try walk_nrm
  refine valE O rfl (.bool true) rfl rfl (fun _ => by simp [go_sem]) (fun _ => by go_simp; try (first | rfl | (simp [*]))) ?_; try walk_nrm
  refine valE O rfl (.bool true) rfl rfl (fun _ => by simp [go_sem]) (fun _ => by go_simp; try (first | rfl | (simp [*]))) ?_; try walk_nrm
  refine valE O rfl (.bool true) rfl rfl (fun _ => by simp [go_sem]) (fun _ => by go_simp; try (first | rfl | (simp [*]))) ?_; try walk_nrm
  refine valE O rfl (.int .u64 6) rfl rfl (fun _ => by simp [go_sem]) (fun _ => by go_simp; try (first | rfl | (simp [*]))) ?_; try walk_nrm
  refine valE O rfl (.bool true) rfl rfl (fun _ => by simp [go_sem]) (fun _ => by go_simp; try (first | rfl | (simp [*]))) ?_; try walk_nrm
  refine valE O rfl (.bool true) rfl rfl (fun _ => by simp [go_sem]) (fun _ => by go_simp; try (first | rfl | (simp [*]))) ?_; try walk_nrm
  refine valE O rfl (.bool true) rfl rfl (fun _ => by simp [go_sem]) (fun _ => by go_simp; try (first | rfl | (simp [*]))) ?_; try walk_nrm
  refine valE O rfl (.pointer (some ⟨nb, 0, none⟩)) rfl rfl (fun _ => by simp [go_sem]) (fun _ => by go_simp; try (first | rfl | (simp [*]))) ?_; try walk_nrm
  refine opCallK (f := 37) (vals := #[.pointer (some ⟨nb, 0, none⟩)]) (M' := fun v u => u.ownsRow 0 110 2 v awakeMarks.length (mks awakeMarks) ∧ Row u mb (mks awakeMarks).toArray 110 ∧ Since B M u) h7 (by kernel_rfl) rfl rfl rfl Try.func37 rfl rfl rfl (fun u hu hs => ?_) fun v w8 h8 _ => ?_
  · refine (marks_c nb awakeMarks u hu.1.2 (by decide)).mono ?_
    rintro e u' ⟨v', rfl, h3, h4⟩
    exact ⟨_, rfl, own_zero h3, gm_row.keep u u' (Gr.of_sm0 h4 fun _ h => h.elim) hu.2.1, hu.2.2.sm h4 fun _ h => h.elim⟩
  clear h7
  try walk_nrm
  refine valE O rfl (.slice (some ⟨mb, 0, none⟩) 7 7) rfl rfl (fun _ => by simp [go_sem]) (fun _ => by go_simp; try (first | rfl | (simp [*]))) ?_; try walk_nrm
  refine opCallK (f := 36) (vals := #[v, .slice (some ⟨mb, 0, none⟩) 7 7]) (M' := fun r u => r = .bool true ∧ Since B M u) h8 (by kernel_rfl) rfl rfl rfl Try.func36 rfl rfl rfl (fun u hu hs => ?_) fun r w9 h9 _ => ?_
  · refine (sameMarks_c v _ awakeMarks awakeMarks u hu.1 (own_row hu.2.1 7 2 rfl (by unfold maxLen; omega)) (by decide)).mono ?_
    rintro e u' ⟨rfl, h4⟩
    exact ⟨_, rfl, by simp, hu.2.2.sm h4 fun _ h => h.elim⟩
  clear h8
  obtain rfl : r = .bool true := by obtain ⟨u, _, hu⟩ := h9.get; exact hu.1
  have hsz9 : B ≤ w9.heap.size := by
    obtain ⟨u, hp, hu⟩ := h9.get
    obtain ⟨u0, _, q2, q3⟩ := hu.2
    rw [← hp.size, ← q3]; exact q2.size
  have h9 : Kn x M w9 := h9.mono fun u hu => hu.2.now
  try walk_nrm
  refine valE O rfl (.bool true) rfl rfl (fun _ => by simp [go_sem]) (fun _ => by go_simp; try (first | rfl | (simp [*]))) ?_; try walk_nrm
  refine valE O rfl (.bool true) rfl rfl (fun _ => by simp [go_sem]) (fun _ => by go_simp; try (first | rfl | (simp [*]))) ?_; try walk_nrm
  refine cpsR_nil O ?_
  refine cps_ret O (hQ _ _ _ _ ⟨.inr rfl, .bool true, retE O rfl rfl rfl, Hq.out w9 h9 hsz9⟩)
end
end Go.Proofs.Ytmcffabfghhpaaa
