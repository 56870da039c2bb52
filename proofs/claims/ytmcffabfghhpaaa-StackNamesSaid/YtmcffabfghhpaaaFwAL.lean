/- Plain words: StackTags' threads. No condition. -/
import Derived.Test.YtmcffabfghhpaaaFwAK
import Derived.ChangeKeysEq
import Derived.Laws.Small
import Derived.Test.YtmcffabfghhpaaaFwAF
import Derived.Test.YtmcffabfghhpaaaRows
import Derived.ProofKit
import Derived.OpenShut
import Derived.Conc.LeavingOf
import Derived.Deep.Slices
import Derived.Deep.Grids
set_option linter.unusedVariables false
set_option linter.unusedSimpArgs false
/- Plain words: StackTags' threads. No condition. -/
namespace Go.Proofs.Ytmcffabfghhpaaa
open Go.Conc Go.RowKit
/-- What StackTags' threads write down. -/
structure TB where
  g0 : Nat
  g1 : Nat
  g2 : Nat
  k0 : Bool
  k1 : Bool
  k2 : Bool
  k3 : Bool
inductive TC
  | a
  | b
  | bb
  | c
/-- .. in memory. -/
structure TBRep (S tb gb ob db d : Nat) (b : TB) (u : World) : Prop where
  rt : Row u tb #[.pointer (some ⟨S, 0, none⟩)] 26
  rg : Row u gb #[.int .u64 b.g0, .int .u64 b.g1, .int .u64 b.g2] 95
  ro : Row u ob #[.bool b.k0, .bool b.k1, .bool b.k2, .bool b.k3] 96
  rd : Row u db #[.int .u64 d] 30
  gt : tb ≠ gb
  ot : tb ≠ ob
  og : gb ≠ ob
  dg : db ≠ gb
  do_ : db ≠ ob
section
variable {S tb gb ob db d : Nat} {b : TB} {u : World}
theorem TBRep.ct (h : TBRep S tb gb ob db d b u) : u.cell? ⟨tb, 0, none⟩ = some (.pointer (some ⟨S, 0, none⟩)) := h.rt.cell 0
theorem TBRep.cd (h : TBRep S tb gb ob db d b u) : u.cell? ⟨db, 0, none⟩ = some (.int .u64 d) := h.rd.cell 0
theorem TBRep.setG (h : TBRep S tb gb ob db d b u) {i x : Nat} (b' : TB) (hi : (#[.int .u64 b.g0, .int .u64 b.g1, .int .u64 b.g2] : Array Value).setIfInBounds i (.int .u64 x) = #[.int .u64 b'.g0, .int .u64 b'.g1, .int .u64 b'.g2]) (h1 : b'.k0 = b.k0 ∧ b'.k1 = b.k1 ∧ b'.k2 = b.k2 ∧ b'.k3 = b.k3) : TBRep S tb gb ob db d b' (u.setCell ⟨gb, i, none⟩ (.int .u64 x)) := by
  obtain ⟨e0, e1, e2, e3⟩ := h1
  refine { h with rt := h.rt.set_ne (fun e => h.gt e.symm) _, rg := ?_, ro := ?_, rd := h.rd.set_ne (fun e => h.dg e.symm) _ }
  · rw [← hi]; exact h.rg.set i _
  · rw [e0, e1, e2, e3]; exact h.ro.set_ne h.og _
theorem TBRep.setO (h : TBRep S tb gb ob db d b u) {i : Nat} {x : Bool} (b' : TB) (hi : (#[.bool b.k0, .bool b.k1, .bool b.k2, .bool b.k3] : Array Value).setIfInBounds i (.bool x) = #[.bool b'.k0, .bool b'.k1, .bool b'.k2, .bool b'.k3]) (h1 : b'.g0 = b.g0 ∧ b'.g1 = b.g1 ∧ b'.g2 = b.g2) : TBRep S tb gb ob db d b' (u.setCell ⟨ob, i, none⟩ (.bool x)) := by
  obtain ⟨e0, e1, e2⟩ := h1
  refine { h with rt := h.rt.set_ne (fun e => h.ot e.symm) _, rg := ?_, ro := ?_, rd := h.rd.set_ne (fun e => h.do_ e.symm) _ }
  · rw [e0, e1, e2]; exact h.rg.set_ne (fun e => h.og e.symm) _
  · rw [← hi]; exact h.ro.set i _
end
def tagFin {S N n : Nat} (d : Nat) (q : TC) (r : SRes) (σ : SSt × TB) : (SSt × TB) × Option (SPos × TC) := match q with
  | .a => ((σ.1, { σ.2 with g0 := r.num, k0 := r.ok }), none)
  | .b => ((σ.1, { σ.2 with g1 := r.num, k1 := r.ok }), some (.t1 1 (.push d), .bb))
  | .bb => ((σ.1, { σ.2 with k3 := r.ok }), none)
  | .c => ((σ.1, { σ.2 with g2 := r.num, k2 := r.ok }), none)
/-- StackTags' threads. -/
def tagK (B S N n tb gb ob db d : Nat) : Client (stkJob S N n) where
  base := B
  B := TB
  C := TC
  fin := tagFin (S := S) (N := N) (n := n) d
  footB := fun _ x => x = tb ∨ x = gb ∨ x = ob ∨ x = db
  RepB := TBRep S tb gb ob db d
  frameB := fun b u u' h hr => { hr with rt := by have := hr.rt; unfold Row at *; rw [h tb (.inl rfl)]; exact this, rg := by have := hr.rg; unfold Row at *; rw [h gb (.inr (.inl rfl))]; exact this, ro := by have := hr.ro; unfold Row at *; rw [h ob (.inr (.inr (.inl rfl)))]; exact this, rd := by have := hr.rd; unfold Row at *; rw [h db (.inr (.inr (.inr rfl)))]; exact this }
  realB := fun b u x hr hx => by
    have key : ∀ {y : Nat} {c : Array Value} {t : TypeId}, Row u y c t → c.size ≠ 0 → ∃ o, u.heap[y]? = some o ∧ (∀ cap buf cl x r t, o ≠ .chan cap buf cl x r t) ∧ ∀ T, o ≠ .cells #[] T (0, 0) := fun h hc =>
      ⟨_, h, fun _ _ _ _ _ _ e => (by cases e), fun T e => by
        have := congrArg (fun o => match o with | Obj.cells c _ _ => c.size | _ => 0) e
        exact hc this⟩
    rcases hx with rfl | rfl | rfl | rfl
    · exact key hr.rt (by simp)
    · exact key hr.rg (by simp)
    · exact key hr.ro (by simp)
    · exact key hr.rd (by simp)
section
variable {B S N sz tb gb ob db d : Nat}
set_option maxRecDepth 100000 in
set_option maxHeartbeats 2000000 in
theorem tag_a : ThrC (tagK B S N sz tb gb ob db d).core 38 #[.pointer (some ⟨tb, 0, none⟩), .pointer (some ⟨gb, 0, none⟩), .pointer (some ⟨ob, 0, none⟩)] (fun σ => (σ, some (SPos.t1 0 .pop, TC.a))) where
  fn := ⟨_, _, Try.func38, by kernel_rfl, rfl⟩
  run := fun Wg s θ n w a o hs ho hSh hw hr => by
    obtain ⟨a, b⟩ := a
    have O := envT_ok (tagK B S N sz tb gb ob db d).core.spec Wg (WgL Wg) s
    have h : TK (tagK B S N sz tb gb ob db d) Wg s (n, (((a, b), o), some (SPos.t1 0 .pop, TC.a)), θ) a b ((a, b), some (SPos.t1 0 .pop, TC.a)) w := ⟨hs, ho, hSh, hw, o, hr, rfl⟩
    clear hs ho hSh hw hr
    show cpsC (envT (tagK B S N sz tb gb ob db d).core.spec Wg (WgL Wg) s) _ _ _ (n, (((a, b), o), some (SPos.t1 0 .pop, TC.a)), θ) _
    refine cpsC_body O Try.func38 rfl ?_
    simp only [Try.ntmps38]
    refine cps_opaque fun Q' hQ => ?_
    walk_nrm
    repeat refine cps_seq O ?_
    (refine cps_region O ?_; simp only [List.size_toArray, List.length_cons, List.length_nil, Nat.reduceAdd, Nat.zero_add, List.range, List.range.loop])
    refine readTK h (.pointer (some ⟨S, 0, none⟩)) rfl (by kernel_rfl) rfl (fun u h1 h2 => by have hc := TBRep.ct h2; go_simp) fun w1 h1 => ?_
    try walk_nrm
    clear h
    refine valE O rfl (seatGate s) rfl rfl (fun _ => by simp [go_sem]) (fun _ => by go_simp; try (first | rfl | (simp [*]))) ?_; try walk_nrm
    refine callE O rfl (f := 14) (vals := #[.pointer (some ⟨S, 0, none⟩), seatGate s]) rfl rfl rfl Try.func14 rfl rfl rfl ?_
    refine pop_t h1 fun n2 a2 b2 r w2 hr hnum h2 => ?_
    clear h1
    have h2 : TK (tagK B S N sz tb gb ob db d) Wg s n2 a2 b2 ((a2, { (b2 : TB) with g0 := r.num, k0 := r.ok }), none) w2 := h2
    obtain ⟨x, hx⟩ : ∃ x, x = r.num := ⟨_, rfl⟩
    obtain ⟨k, hk⟩ : ∃ k, k = r.ok := ⟨_, rfl⟩
    rw [← hx, ← hk] at h2
    rw [← hx, ← hk]
    clear hx hk hr hnum
    try walk_nrm
    refine valE O rfl (.tuple #[.int .u64 x, .bool k, .int .i64 0]) rfl rfl (fun _ => by simp [go_sem]) (fun _ => by go_simp; try (first | rfl | (simp [*]))) ?_; try walk_nrm
    refine valE O rfl (.int .u64 x) rfl rfl (fun _ => by simp [go_sem]) (fun _ => by go_simp; try (first | rfl | (simp [*]))) ?_; try walk_nrm
    refine valE O rfl (.bool k) rfl rfl (fun _ => by simp [go_sem]) (fun _ => by go_simp; try (first | rfl | (simp [*]))) ?_; try walk_nrm
    refine valE O rfl (.int .i64 0) rfl rfl (fun _ => by simp [go_sem]) (fun _ => by go_simp; try (first | rfl | (simp [*]))) ?_; try walk_nrm
    refine readTK h2 (.pointer (some ⟨gb, 0, none⟩)) rfl (by kernel_rfl) rfl (fun u _ _ => by go_simp) fun w2 h2 => ?_
    try walk_nrm
    refine opT h2 undef a2 { (b2 : TB) with g0 := x } rfl (by kernel_rfl) rfl (fun u h3 h4 h5 => ?_) fun w3 h6 => ?_
    · have h4 : TBRep S tb gb ob db d b2 u := h4
      have hc : u.cell? ⟨gb, 0, none⟩ = some (.int .u64 (TB.g0 b2)) := h4.rg.cell 0
      have hf := h4.rg.free 0
      refine ⟨u.setCell ⟨gb, 0, none⟩ (.int .u64 x), .inr ⟨?_, rfl⟩, ⟨(stkJob S N sz).frame a2 u _ (fun y hy => ?_) h3, h4.setG _ rfl ⟨rfl, rfl, rfl, rfl⟩, h5, (Sm.refl _ _).setCell (.inr (.inr (.inl rfl))) _, fun y hy => .inl hy⟩⟩
      · go_simp
      · exact Below.heap_setCell _ _ _ _ (fun e => h5 y hy (by rw [e]; exact .inr (.inl rfl)))
    try walk_nrm
    clear h2
    refine readTK h6 (.pointer (some ⟨ob, 0, none⟩)) rfl (by kernel_rfl) rfl (fun u _ _ => by go_simp) fun w6 h6 => ?_
    try walk_nrm
    refine opT h6 undef a2 { (b2 : TB) with g0 := x, k0 := k } rfl (by kernel_rfl) rfl (fun u h3 h4 h5 => ?_) fun w3 h7 => ?_
    · have h4 : TBRep S tb gb ob db d { (b2 : TB) with g0 := x } u := h4
      have hc : u.cell? ⟨ob, 0, none⟩ = some (.bool (TB.k0 b2)) := h4.ro.cell 0
      have hf := h4.ro.free 0
      refine ⟨u.setCell ⟨ob, 0, none⟩ (.bool k), .inr ⟨?_, rfl⟩, ⟨(stkJob S N sz).frame a2 u _ (fun y hy => ?_) h3, h4.setO _ rfl ⟨rfl, rfl, rfl⟩, h5, (Sm.refl _ _).setCell (.inr (.inr (.inr (.inl rfl)))) _, fun y hy => .inl hy⟩⟩
      · go_simp
      · exact Below.heap_setCell _ _ _ _ (fun e => h5 y hy (by rw [e]; exact .inr (.inr (.inl rfl))))
    try walk_nrm
    clear h6
    refine cpsR_nil O ?_
    refine hQ _ _ _ _ ⟨.inl rfl, .tuple #[], ret0E O rfl rfl, h7.done⟩
set_option maxRecDepth 100000 in
set_option maxHeartbeats 2000000 in
theorem tag_b (hd : d < 18446744073709551616) : ThrC (tagK B S N sz tb gb ob db d).core 39 #[.pointer (some ⟨tb, 0, none⟩), .pointer (some ⟨gb, 0, none⟩), .pointer (some ⟨ob, 0, none⟩), .pointer (some ⟨db, 0, none⟩)] (fun σ => (σ, some (SPos.t1 0 .pop, TC.b))) where
  fn := ⟨_, _, Try.func39, by kernel_rfl, rfl⟩
  run := fun Wg s θ n w a o hs ho hSh hw hr => by
    obtain ⟨a, b⟩ := a
    have O := envT_ok (tagK B S N sz tb gb ob db d).core.spec Wg (WgL Wg) s
    have h : TK (tagK B S N sz tb gb ob db d) Wg s (n, (((a, b), o), some (SPos.t1 0 .pop, TC.b)), θ) a b ((a, b), some (SPos.t1 0 .pop, TC.b)) w := ⟨hs, ho, hSh, hw, o, hr, rfl⟩
    clear hs ho hSh hw hr
    show cpsC (envT (tagK B S N sz tb gb ob db d).core.spec Wg (WgL Wg) s) _ _ _ (n, (((a, b), o), some (SPos.t1 0 .pop, TC.b)), θ) _
    refine cpsC_body O Try.func39 rfl ?_
    simp only [Try.ntmps39]
    refine cps_opaque fun Q' hQ => ?_
    walk_nrm
    repeat refine cps_seq O ?_
    (refine cps_region O ?_; simp only [List.size_toArray, List.length_cons, List.length_nil, Nat.reduceAdd, Nat.zero_add, List.range, List.range.loop])
    refine readTK h (.pointer (some ⟨S, 0, none⟩)) rfl (by kernel_rfl) rfl (fun u h1 h2 => by have hc := TBRep.ct h2; go_simp) fun w1 h1 => ?_
    try walk_nrm
    clear h
    refine valE O rfl (seatGate s) rfl rfl (fun _ => by simp [go_sem]) (fun _ => by go_simp; try (first | rfl | (simp [*]))) ?_; try walk_nrm
    refine callE O rfl (f := 14) (vals := #[.pointer (some ⟨S, 0, none⟩), seatGate s]) rfl rfl rfl Try.func14 rfl rfl rfl ?_
    refine pop_t h1 fun n2 a2 b2 r w2 hr hnum h2 => ?_
    clear h1
    have h2 : TK (tagK B S N sz tb gb ob db d) Wg s n2 a2 b2 ((a2, { (b2 : TB) with g1 := r.num, k1 := r.ok }), some (SPos.t1 1 (.push d), TC.bb)) w2 := h2
    obtain ⟨x, hx⟩ : ∃ x, x = r.num := ⟨_, rfl⟩
    obtain ⟨k, hk⟩ : ∃ k, k = r.ok := ⟨_, rfl⟩
    rw [← hx, ← hk] at h2
    rw [← hx, ← hk]
    clear hx hk hr hnum
    try walk_nrm
    refine valE O rfl (.tuple #[.int .u64 x, .bool k, .int .i64 0]) rfl rfl (fun _ => by simp [go_sem]) (fun _ => by go_simp; try (first | rfl | (simp [*]))) ?_; try walk_nrm
    refine valE O rfl (.int .u64 x) rfl rfl (fun _ => by simp [go_sem]) (fun _ => by go_simp; try (first | rfl | (simp [*]))) ?_; try walk_nrm
    refine valE O rfl (.bool k) rfl rfl (fun _ => by simp [go_sem]) (fun _ => by go_simp; try (first | rfl | (simp [*]))) ?_; try walk_nrm
    refine valE O rfl (.int .i64 0) rfl rfl (fun _ => by simp [go_sem]) (fun _ => by go_simp; try (first | rfl | (simp [*]))) ?_; try walk_nrm
    refine readTK h2 (.pointer (some ⟨gb, 1, none⟩)) rfl (by kernel_rfl) rfl (fun u _ _ => by go_simp) fun w2 h2 => ?_
    try walk_nrm
    refine opT h2 undef a2 { (b2 : TB) with g1 := x } rfl (by kernel_rfl) rfl (fun u h3 h4 h5 => ?_) fun w3 h6 => ?_
    · have h4 : TBRep S tb gb ob db d b2 u := h4
      have hc : u.cell? ⟨gb, 1, none⟩ = some (.int .u64 (TB.g1 b2)) := h4.rg.cell 1
      have hf := h4.rg.free 1
      refine ⟨u.setCell ⟨gb, 1, none⟩ (.int .u64 x), .inr ⟨?_, rfl⟩, ⟨(stkJob S N sz).frame a2 u _ (fun y hy => ?_) h3, h4.setG _ rfl ⟨rfl, rfl, rfl, rfl⟩, h5, (Sm.refl _ _).setCell (.inr (.inr (.inl rfl))) _, fun y hy => .inl hy⟩⟩
      · go_simp
      · exact Below.heap_setCell _ _ _ _ (fun e => h5 y hy (by rw [e]; exact .inr (.inl rfl)))
    try walk_nrm
    clear h2
    refine readTK h6 (.pointer (some ⟨ob, 1, none⟩)) rfl (by kernel_rfl) rfl (fun u _ _ => by go_simp) fun w6 h6 => ?_
    try walk_nrm
    refine opT h6 undef a2 { (b2 : TB) with g1 := x, k1 := k } rfl (by kernel_rfl) rfl (fun u h3 h4 h5 => ?_) fun w3 h7 => ?_
    · have h4 : TBRep S tb gb ob db d { (b2 : TB) with g1 := x } u := h4
      have hc : u.cell? ⟨ob, 1, none⟩ = some (.bool (TB.k1 b2)) := h4.ro.cell 1
      have hf := h4.ro.free 1
      refine ⟨u.setCell ⟨ob, 1, none⟩ (.bool k), .inr ⟨?_, rfl⟩, ⟨(stkJob S N sz).frame a2 u _ (fun y hy => ?_) h3, h4.setO _ rfl ⟨rfl, rfl, rfl⟩, h5, (Sm.refl _ _).setCell (.inr (.inr (.inr (.inl rfl)))) _, fun y hy => .inl hy⟩⟩
      · go_simp
      · exact Below.heap_setCell _ _ _ _ (fun e => h5 y hy (by rw [e]; exact .inr (.inr (.inl rfl))))
    try walk_nrm
    clear h6
    refine cpsR_nil O ?_
    show cps _ _ _ _ _ _
    obtain ⟨b3, hb3⟩ : ∃ b3 : TB, b3 = { (b2 : TB) with g1 := x, k1 := k } := ⟨_, rfl⟩
    have h7 : TK (tagK B S N sz tb gb ob db d) Wg s n2 a2 b3 ((a2, b3), some (SPos.t1 1 (.push d), TC.bb)) w3 := by rw [hb3]; exact h7
    clear hb3
    (refine cps_region O ?_; simp only [List.size_toArray, List.length_cons, List.length_nil, Nat.reduceAdd, Nat.zero_add, List.range, List.range.loop])
    refine readTK h7 (.pointer (some ⟨S, 0, none⟩)) rfl (by kernel_rfl) rfl (fun u h1 h2 => by have hc := TBRep.ct h2; go_simp) fun w4 h7 => ?_
    try walk_nrm
    refine valE O rfl (seatGate s) rfl rfl (fun _ => by simp [go_sem]) (fun _ => by go_simp; try (first | rfl | (simp [*]))) ?_; try walk_nrm
    refine readTK h7 (.int .u64 d) rfl (by kernel_rfl) rfl (fun u h1 h2 => by have hc := TBRep.cd h2; go_simp) fun w4 h7 => ?_
    try walk_nrm
    refine callE O rfl (f := 13) (vals := #[.pointer (some ⟨S, 0, none⟩), seatGate s, .int .u64 d]) rfl rfl rfl Try.func13 rfl rfl rfl ?_
    refine push_t hd h7 fun n8 a8 b8 r w8 hr h8 => ?_
    clear h7
    have h8 : TK (tagK B S N sz tb gb ob db d) Wg s n8 a8 b8 ((a8, { (b8 : TB) with k3 := r.ok }), none) w8 := h8
    obtain ⟨k3, hk⟩ : ∃ k, k = r.ok := ⟨_, rfl⟩
    rw [← hk] at h8
    rw [← hk]
    clear hk hr
    try walk_nrm
    refine valE O rfl (.tuple #[.bool k3, .int .i64 0]) rfl rfl (fun _ => by simp [go_sem]) (fun _ => by go_simp; try (first | rfl | (simp [*]))) ?_; try walk_nrm
    refine valE O rfl (.bool k3) rfl rfl (fun _ => by simp [go_sem]) (fun _ => by go_simp; try (first | rfl | (simp [*]))) ?_; try walk_nrm
    refine valE O rfl (.int .i64 0) rfl rfl (fun _ => by simp [go_sem]) (fun _ => by go_simp; try (first | rfl | (simp [*]))) ?_; try walk_nrm
    refine readTK h8 (.pointer (some ⟨ob, 3, none⟩)) rfl (by kernel_rfl) rfl (fun u _ _ => by go_simp) fun w6 h6 => ?_
    try walk_nrm
    refine opT h6 undef a8 { (b8 : TB) with k3 := k3 } rfl (by kernel_rfl) rfl (fun u h3 h4 h5 => ?_) fun w3 h9 => ?_
    · have h4 : TBRep S tb gb ob db d b8 u := h4
      have hc : u.cell? ⟨ob, 3, none⟩ = some (.bool (TB.k3 b8)) := h4.ro.cell 3
      have hf := h4.ro.free 3
      refine ⟨u.setCell ⟨ob, 3, none⟩ (.bool k3), .inr ⟨?_, rfl⟩, ⟨(stkJob S N sz).frame a8 u _ (fun y hy => ?_) h3, h4.setO _ rfl ⟨rfl, rfl, rfl⟩, h5, (Sm.refl _ _).setCell (.inr (.inr (.inr (.inl rfl)))) _, fun y hy => .inl hy⟩⟩
      · go_simp
      · exact Below.heap_setCell _ _ _ _ (fun e => h5 y hy (by rw [e]; exact .inr (.inr (.inl rfl))))
    try walk_nrm
    refine cpsR_nil O ?_
    refine hQ _ _ _ _ ⟨.inl rfl, .tuple #[], ret0E O rfl rfl, h9.done⟩
set_option maxRecDepth 100000 in
set_option maxHeartbeats 2000000 in
theorem tag_c : ThrC (tagK B S N sz tb gb ob db d).core 40 #[.pointer (some ⟨tb, 0, none⟩), .pointer (some ⟨gb, 0, none⟩), .pointer (some ⟨ob, 0, none⟩)] (fun σ => (σ, some (SPos.t1 0 .pop, TC.c))) where
  fn := ⟨_, _, Try.func40, by kernel_rfl, rfl⟩
  run := fun Wg s θ n w a o hs ho hSh hw hr => by
    obtain ⟨a, b⟩ := a
    have O := envT_ok (tagK B S N sz tb gb ob db d).core.spec Wg (WgL Wg) s
    have h : TK (tagK B S N sz tb gb ob db d) Wg s (n, (((a, b), o), some (SPos.t1 0 .pop, TC.c)), θ) a b ((a, b), some (SPos.t1 0 .pop, TC.c)) w := ⟨hs, ho, hSh, hw, o, hr, rfl⟩
    clear hs ho hSh hw hr
    show cpsC (envT (tagK B S N sz tb gb ob db d).core.spec Wg (WgL Wg) s) _ _ _ (n, (((a, b), o), some (SPos.t1 0 .pop, TC.c)), θ) _
    refine cpsC_body O Try.func40 rfl ?_
    simp only [Try.ntmps40]
    refine cps_opaque fun Q' hQ => ?_
    walk_nrm
    repeat refine cps_seq O ?_
    (refine cps_region O ?_; simp only [List.size_toArray, List.length_cons, List.length_nil, Nat.reduceAdd, Nat.zero_add, List.range, List.range.loop])
    refine readTK h (.pointer (some ⟨S, 0, none⟩)) rfl (by kernel_rfl) rfl (fun u h1 h2 => by have hc := TBRep.ct h2; go_simp) fun w1 h1 => ?_
    try walk_nrm
    clear h
    refine valE O rfl (seatGate s) rfl rfl (fun _ => by simp [go_sem]) (fun _ => by go_simp; try (first | rfl | (simp [*]))) ?_; try walk_nrm
    refine callE O rfl (f := 14) (vals := #[.pointer (some ⟨S, 0, none⟩), seatGate s]) rfl rfl rfl Try.func14 rfl rfl rfl ?_
    refine pop_t h1 fun n2 a2 b2 r w2 hr hnum h2 => ?_
    clear h1
    have h2 : TK (tagK B S N sz tb gb ob db d) Wg s n2 a2 b2 ((a2, { (b2 : TB) with g2 := r.num, k2 := r.ok }), none) w2 := h2
    obtain ⟨x, hx⟩ : ∃ x, x = r.num := ⟨_, rfl⟩
    obtain ⟨k, hk⟩ : ∃ k, k = r.ok := ⟨_, rfl⟩
    rw [← hx, ← hk] at h2
    rw [← hx, ← hk]
    clear hx hk hr hnum
    try walk_nrm
    refine valE O rfl (.tuple #[.int .u64 x, .bool k, .int .i64 0]) rfl rfl (fun _ => by simp [go_sem]) (fun _ => by go_simp; try (first | rfl | (simp [*]))) ?_; try walk_nrm
    refine valE O rfl (.int .u64 x) rfl rfl (fun _ => by simp [go_sem]) (fun _ => by go_simp; try (first | rfl | (simp [*]))) ?_; try walk_nrm
    refine valE O rfl (.bool k) rfl rfl (fun _ => by simp [go_sem]) (fun _ => by go_simp; try (first | rfl | (simp [*]))) ?_; try walk_nrm
    refine valE O rfl (.int .i64 0) rfl rfl (fun _ => by simp [go_sem]) (fun _ => by go_simp; try (first | rfl | (simp [*]))) ?_; try walk_nrm
    refine readTK h2 (.pointer (some ⟨gb, 2, none⟩)) rfl (by kernel_rfl) rfl (fun u _ _ => by go_simp) fun w2 h2 => ?_
    try walk_nrm
    refine opT h2 undef a2 { (b2 : TB) with g2 := x } rfl (by kernel_rfl) rfl (fun u h3 h4 h5 => ?_) fun w3 h6 => ?_
    · have h4 : TBRep S tb gb ob db d b2 u := h4
      have hc : u.cell? ⟨gb, 2, none⟩ = some (.int .u64 (TB.g2 b2)) := h4.rg.cell 2
      have hf := h4.rg.free 2
      refine ⟨u.setCell ⟨gb, 2, none⟩ (.int .u64 x), .inr ⟨?_, rfl⟩, ⟨(stkJob S N sz).frame a2 u _ (fun y hy => ?_) h3, h4.setG _ rfl ⟨rfl, rfl, rfl, rfl⟩, h5, (Sm.refl _ _).setCell (.inr (.inr (.inl rfl))) _, fun y hy => .inl hy⟩⟩
      · go_simp
      · exact Below.heap_setCell _ _ _ _ (fun e => h5 y hy (by rw [e]; exact .inr (.inl rfl)))
    try walk_nrm
    clear h2
    refine readTK h6 (.pointer (some ⟨ob, 2, none⟩)) rfl (by kernel_rfl) rfl (fun u _ _ => by go_simp) fun w6 h6 => ?_
    try walk_nrm
    refine opT h6 undef a2 { (b2 : TB) with g2 := x, k2 := k } rfl (by kernel_rfl) rfl (fun u h3 h4 h5 => ?_) fun w3 h7 => ?_
    · have h4 : TBRep S tb gb ob db d { (b2 : TB) with g2 := x } u := h4
      have hc : u.cell? ⟨ob, 2, none⟩ = some (.bool (TB.k2 b2)) := h4.ro.cell 2
      have hf := h4.ro.free 2
      refine ⟨u.setCell ⟨ob, 2, none⟩ (.bool k), .inr ⟨?_, rfl⟩, ⟨(stkJob S N sz).frame a2 u _ (fun y hy => ?_) h3, h4.setO _ rfl ⟨rfl, rfl, rfl⟩, h5, (Sm.refl _ _).setCell (.inr (.inr (.inr (.inl rfl)))) _, fun y hy => .inl hy⟩⟩
      · go_simp
      · exact Below.heap_setCell _ _ _ _ (fun e => h5 y hy (by rw [e]; exact .inr (.inr (.inl rfl))))
    try walk_nrm
    clear h6
    refine cpsR_nil O ?_
    refine hQ _ _ _ _ ⟨.inl rfl, .tuple #[], ret0E O rfl rfl, h7.done⟩
end
end Go.Proofs.Ytmcffabfghhpaaa
/- Plain words: what goroutine 0 knows behind a play; what StackTags' play comes to. No condition. -/
namespace Go.Proofs.Ytmcffabfghhpaaa
open Go.Conc Go.RowKit
open Go.ConcR (WgAt wgBlock)
section
variable {Y : Core} {M : World → Prop} {B : Nat} {w w' : World} {o₀ : Own} {Wg B0 N : Nat} {a : Y.St} {tr : List Turned} {vt : Value}
instance ho_core {a : Y.St} : HO (Y.Rep a) := ⟨fun u u' h _ _ q => Y.frame a u u' (fun b _ => by rw [h]) q⟩
/-- What is known behind a play. -/
theorem Played.kn (h : Played Y Wg B0 o₀ a tr vt w') (hs : Since B M w) (hB : B ≤ Wg) (ho : ∀ b, b < B → o₀ b = w.heap[b]?) (hos : w.os = o₀.os ∧ w.output = o₀.out) (hsz : w.heap.size ≤ w'.heap.size) :
    Kn ⟨some Wg, N⟩ (fun u => Y.Rep a u ∧ u.ownsRow B0 tTurned 3 vt tr.length (tr.flatMap turnCells) ∧ Since B M u) w' := by
  refine ⟨fun b hb => ?_, fun u hu => ?_⟩
  · obtain rfl : Wg = b := Option.some.inj hb
    obtain ⟨st, sm, hw⟩ := h.wg
    exact ⟨_, hw⟩
  · have hne : ∀ b, b ≠ Wg → u.heap[b]? = w'.heap[b]? := fun b hb => hu.heap b fun hF => hb (Option.some.inj hF).symm
    refine ⟨Y.frame a w' u (fun b hb => hne b (h.foot b hb).1) h.rep, ownsRow_of h.trace fun b e => hne b fun e2 => h.traceW (e2 ▸ e), ?_⟩
    obtain ⟨u0, q1, q2, q3⟩ := hs
    refine ⟨u0, q1, ⟨?_, fun b hb => ?_, ?_, ?_⟩, q3⟩
    · have := q2.size
      rw [hu.size]; omega
    · rw [hne b (by omega), ← q2.block b hb]
      have hlt : b < w.heap.size := Nat.lt_of_lt_of_le hb q2.size
      have e1 : w.heap[b]? = some w.heap[b] := Array.getElem?_eq_getElem hlt
      rw [e1]
      exact h.old b _ (by rw [ho b (by omega)]; exact e1)
    · exact hu.os.trans (h.os.trans (hos.1.symm.trans q2.os))
    · exact hu.output.trans (h.out.trans (hos.2.symm.trans q2.out))
end
/-! ### StackTags, told apart from memory -/
def tagOrder : List Int := [0, 0, 1, 1, 1, 1, 2, 2, 2, 2, 2, 2, 2, 1, 1, 1, 1, 1, 1, 1, 1, 1, 1]
def pushM (j : Int) : List (Int × Int) := [(1, 1), (1, 2 + 2 * j), (5, 1), (2, 3 + 2 * j), (1, 0), (2, 2 + 2 * j), (5, 0)]
def popM (j : Int) : List (Int × Int) := [(1, 0), (1, 2 + 2 * j), (5, 0), (1, 3 + 2 * j), (1, 1), (2, 2 + 2 * j), (5, 1)]
def tg0 : SSt := ⟨0, 1, [2, 0, 3, 0, 4, 0, 0, 0]⟩
def tg1 (a : Nat) : SSt := ⟨4294967297, 4294967298, [0, a, 3, 0, 4, 0, 0, 0]⟩
def tg2 (a b : Nat) : SSt := ⟨8589934594, 8589934595, [0, a, 1, b, 4, 0, 0, 0]⟩
def tg3 (a b c : Nat) : SSt := ⟨12884901891, 12884901892, [0, a, 1, b, 2, c, 0, 0]⟩
def tg4 (a b d : Nat) : SSt := ⟨30064771073, 30064771075, [0, a, 4, b, 2, d, 0, 0]⟩
def tg5 (a b d : Nat) : SSt := ⟨34359738368, 34359738369, [3, a, 4, b, 2, d, 0, 0]⟩
theorem fin_eq {f : Option (SSt × SRes × List (Int × Int))} {n0 n1 : Nat} {m : List Nat} {r : SRes × List (Int × Int)} (h1 : f.map (fun f => f.1.t0 == n0 && f.1.t1 == n1) = some true) (h2 : f.map (fun f => (f.1.m, f.2)) = some (m, r)) : f = some (⟨n0, n1, m⟩, r) := by
  cases f with
  | none => cases h1
  | some f =>
    obtain ⟨⟨t0, t1, m'⟩, r'⟩ := f
    simp only [Option.map_some, Option.some.injEq, Bool.and_eq_true, beq_iff_eq, Prod.mk.injEq] at h1 h2
    obtain ⟨rfl, rfl⟩ := h1
    obtain ⟨rfl, rfl⟩ := h2
    rfl
theorem st_eq {σ : SSt × TB} {n0 n1 : Nat} {m : List Nat} {b : TB} (h1 : (σ.1.t0 == n0 && σ.1.t1 == n1) = true) (h2 : σ.1.m = m) (h3 : σ.2 = b) : σ = (⟨n0, n1, m⟩, b) := by
  obtain ⟨⟨t0, t1, m'⟩, b'⟩ := σ
  simp only [Bool.and_eq_true, beq_iff_eq] at h1 h2 h3
  obtain ⟨rfl, rfl⟩ := h1
  subst h2 h3
  rfl
section
variable {B S N tb gb ob db a b c d : Nat}
theorem tag_p1 : (stkJob S N 4).fin 20 [] (tg0, .inl (SPos.t1 1 (.push a))) = some (tg1 a, .done .push, pushM 0) := fin_eq (by kernel_rfl) (by kernel_rfl)
theorem tag_p2 : (stkJob S N 4).fin 20 [] (tg1 a, .inl (SPos.t1 1 (.push b))) = some (tg2 a b, .done .push, pushM 1) := fin_eq (by kernel_rfl) (by kernel_rfl)
theorem tag_p3 : (stkJob S N 4).fin 20 [] (tg2 a b, .inl (SPos.t1 1 (.push c))) = some (tg3 a b c, .done .push, pushM 2) := fin_eq (by kernel_rfl) (by kernel_rfl)
theorem tag_p4 : (stkJob S N 4).fin 20 [] (tg4 a b d, .inl (SPos.t1 0 .pop)) = some (tg5 a b d, .done (.pop a), popM 0) := fin_eq (by kernel_rfl) (by kernel_rfl)
theorem tag_p5 : (stkJob S N 4).fin 20 [] (tg5 a b d, .inl (SPos.t1 0 .pop)) = some (tg5 a b d, .none .pop, [(1, 0)]) := by kernel_rfl
def tagThr (B S N tb gb ob db d : Nat) : List (Thr (tagK B S N 4 tb gb ob db d).core) :=
  [⟨38, #[.pointer (some ⟨tb, 0, none⟩), .pointer (some ⟨gb, 0, none⟩), .pointer (some ⟨ob, 0, none⟩)], fun σ => (σ, some (SPos.t1 0 .pop, TC.a))⟩,
   ⟨39, #[.pointer (some ⟨tb, 0, none⟩), .pointer (some ⟨gb, 0, none⟩), .pointer (some ⟨ob, 0, none⟩), .pointer (some ⟨db, 0, none⟩)], fun σ => (σ, some (SPos.t1 0 .pop, TC.b))⟩,
   ⟨40, #[.pointer (some ⟨tb, 0, none⟩), .pointer (some ⟨gb, 0, none⟩), .pointer (some ⟨ob, 0, none⟩)], fun σ => (σ, some (SPos.t1 0 .pop, TC.c))⟩]
def tagPlay (B S N tb gb ob db a b c d : Nat) : PSt (tagK B S N 4 tb gb ob db d).core := playF ((tagThr B S N tb gb ob db d).map (·.start)) tagOrder (tg3 a b c, (⟨0, 0, 0, false, false, false, false⟩ : TB))
theorem tag_state : (tagPlay B S N tb gb ob db a b c d).a = (tg4 a b d, (⟨d, c, b, true, true, true, true⟩ : TB)) := by
  exact st_eq (σ := (tagPlay B S N tb gb ob db a b c d).a) (by kernel_rfl) (by kernel_rfl) (by kernel_rfl)
theorem tag_over : (tagPlay B S N tb gb ob db a b c d).ps = [none, none, none] := by kernel_rfl
theorem tag_turns : (tagPlay B S N tb gb ob db a b c d).tr.length = 31 := by kernel_rfl
end
end Go.Proofs.Ytmcffabfghhpaaa
/- Plain words: equal arrays. No condition. -/
namespace Go.Proofs.Ytmcffabfghhpaaa
open Go.Conc Go.RowKit
theorem eq_four (w : World) : Sem.run Try.prog (Op.equalIn 10000 96 (.agg #[.bool true, .bool true, .bool true, .bool true]) (.agg #[.bool true, .bool true, .bool true, .bool true])) w = .ok true w := by kernel_rfl
theorem eq_u64 (k : Nat) (x : Int) (w : World) : Sem.run Try.prog (Op.equalIn (k + 1) 30 (.int .u64 x) (.int .u64 x)) w = .ok true w := by
  simp [Op.equalIn, Op.intCmp, go_sem, Try.underlying30]
theorem eq_three (x y z : Int) (w : World) : Sem.run Try.prog (Op.equalIn 10000 95 (.agg #[.int .u64 x, .int .u64 y, .int .u64 z]) (.agg #[.int .u64 x, .int .u64 y, .int .u64 z])) w = .ok true w := by
  obtain ⟨i, hi⟩ := Option.isSome_iff_exists.1 (show (Try.prog.info? 30).isSome = true by kernel_rfl)
  have hc : Try.prog.cellsOf 30 = 1 := by kernel_rfl
  refine (run_equalIn_array (P := Try.prog) w 9999 _ _ Try.underlying95 hi).trans ?_
  rw [hc]
  simp only [List.range, List.range.loop, Op.eqItems]
  have h1 := eq_u64 9998
  go_simp
end Go.Proofs.Ytmcffabfghhpaaa
/- Plain words: StackTags, by goroutine 0. No condition. -/
namespace Go.Proofs.Ytmcffabfghhpaaa
open Go.Conc Go.RowKit
instance gm_core {Y : Core} {a : Y.St} : GM (Y.Rep a) := ⟨fun u u' h q => Y.frame a u u' (fun b hb => by
  obtain ⟨o, ho, _⟩ := Y.real a u b q hb
  exact h.block b (Array.getElem?_eq_some_iff.1 ho).1) q⟩
instance gm_tb {S tb gb ob db d : Nat} {b : TB} : GM (TBRep S tb gb ob db d b) := ⟨fun u u' h q => { q with rt := gm_row.keep u u' h q.rt, rg := gm_row.keep u u' h q.rg, ro := gm_row.keep u u' h q.ro, rd := gm_row.keep u u' h q.rd }⟩
theorem ho_tb {S tb gb ob db d : Nat} {b : TB} : HO (TBRep S tb gb ob db d b) := inferInstance
section
variable {Wm : Machine → Trace → Prop} {M : World → Prop} {w : World}
set_option maxRecDepth 100000 in
set_option maxHeartbeats 8000000 in
theorem tags_b [GM M] (hW : Back Try.prog Wm) {n : Nat} (hn0 : 0 < n) (hn : n < 60000) {a b c : Nat} (ha : a < 18446744073709551616) (hb : b < 18446744073709551616) (hc : c < 18446744073709551616) (h : Kn ⟨none, n⟩ M w) {Q : LX → Exit → Array Value → World → Prop}
    (hq : ∀ Wg t' w', w.heap.size ≤ Wg → t'.getD 6 undef = .bool true → Kn ⟨some Wg, n + 3⟩ M w' → Q ⟨some Wg, n + 3⟩ .ret t' w') :
    cps (envL Wm) (Try.f7.body.getD .skip) Q ⟨none, n⟩ (#[.int .u64 a, .int .u64 b, .int .u64 c] ++ Array.replicate 114 undef) w := by
  have O := envL_ok (W := Wm)
  obtain ⟨B, hB⟩ : ∃ B, B = w.heap.size := ⟨_, rfl⟩
  rw [← hB] at hq
  have Hq := Lib.hid hq
  clear hq
  refine cps_opaque fun Q' hQ => ?_
  walk_nrmf Try.f7
  have h : Kn ⟨none, n⟩ (Since B M) w := by rw [hB]; exact h.since
  clear hB
  repeat refine cps_seq O ?_
  (refine cps_region O ?_; simp only [List.size_toArray, List.length_cons, List.length_nil, Nat.reduceAdd, Nat.zero_add, List.range, List.range.loop])
  refine valE O rfl (.bool false) rfl rfl (fun _ => by simp [go_sem]) (fun _ => by go_simp; try (first | rfl | (simp [*]))) ?_; try walk_nrm
  refine cpsR_nil O ?_
  show cps _ _ _ _ _ _
  repeat refine cps_seq O ?_
  (refine cps_region O ?_; simp only [List.size_toArray, List.length_cons, List.length_nil, Nat.reduceAdd, Nat.zero_add, List.range, List.range.loop])
  have hgs : GM (Since B M) := ⟨fun u u' k q => by obtain ⟨u0, q1, q2, q3⟩ := q; exact ⟨u0, q1, q2.trans k, q3⟩⟩
  refine callE O rfl (f := 10) (vals := #[]) rfl rfl rfl Try.func10 rfl rfl rfl (awake_l h fun w1 h _ => ?_)
  try walk_nrm
  refine valE O rfl (.bool false) rfl rfl (fun _ => by simp [go_sem]) (fun _ => by go_simp; try (first | rfl | (simp [*]))) ?_; try walk_nrm
  refine cpsR_nil O ?_
  show cps _ _ _ _ _ _
  refine cps_cond O (v := false) rfl ?_
  simp only [Bool.false_eq_true, if_false]
  refine cps_skip O ?_
  show cps _ _ _ _ _ _
  repeat refine cps_seq O ?_
  obtain ⟨N, hN⟩ : ∃ N, N = w1.heap.size := ⟨_, rfl⟩
  have hNB : B ≤ N := by
    obtain ⟨u, hp, u0, _, q2, q3⟩ := h.get
    rw [hN, ← hp.size, ← q3]; exact q2.size
  obtain ⟨S, hS⟩ : ∃ S, S = N + 1 := ⟨_, rfl⟩
  (refine cps_region O ?_; simp only [List.size_toArray, List.length_cons, List.length_nil, Nat.reduceAdd, Nat.zero_add, List.range, List.range.loop])
  refine opCallK (f := 12) (vals := #[.int .i64 4]) (M' := fun v u => v = .tuple #[.pointer (some ⟨S, 0, none⟩), .int .i64 0] ∧ SRep S N 4 tg0 u ∧ Since B M u) h (by kernel_rfl) rfl rfl rfl Try.func12 rfl rfl rfl (fun u hu hs => ?_) fun v w2 h2 _ => ?_
  · refine (new_ok 4 (by decide) (by decide) (by decide) u).mono ?_
    rintro e u' ⟨rfl, hb1, hs1⟩
    rw [hs, ← hN, ← hS, show memK 4 (4 - 1) = [2, 0, 3, 0, 4, 0, 0, 0] from by decide] at hs1
    exact ⟨_, rfl, by rw [hs, ← hN, ← hS], stk_rep hs1 (by decide) (by decide) (by decide), hgs.keep u u' (Gr.of_below hb1) hu⟩
  clear h
  obtain rfl : v = .tuple #[.pointer (some ⟨S, 0, none⟩), .int .i64 0] := by obtain ⟨u, _, hu⟩ := h2.get; exact hu.1
  have h : Kn ⟨none, n⟩ (fun u => SRep S N 4 tg0 u ∧ Since B M u) w2 := h2.mono fun u hu => hu.2
  have hSw : N < w2.heap.size ∧ S < w2.heap.size := by
    obtain ⟨u, hp, hu⟩ := h.get
    rw [← hp.size]; exact ⟨hu.1.stk.rN.lt, hu.1.stk.rS.lt⟩
  clear h2 hN
  try walk_nrm
  refine valE O rfl (.tuple #[.pointer (some ⟨S, 0, none⟩), .int .i64 0]) rfl rfl (fun _ => by simp [go_sem]) (fun _ => by go_simp; try (first | rfl | (simp [*]))) ?_; try walk_nrm
  refine valE O rfl (.pointer (some ⟨S, 0, none⟩)) rfl rfl (fun _ => by simp [go_sem]) (fun _ => by go_simp; try (first | rfl | (simp [*]))) ?_; try walk_nrm
  refine valE O rfl (.int .i64 0) rfl rfl (fun _ => by simp [go_sem]) (fun _ => by go_simp; try (first | rfl | (simp [*]))) ?_; try walk_nrm
  obtain ⟨tb, htb⟩ : ∃ tb, tb = w2.heap.size := ⟨_, rfl⟩
  rw [← htb] at hSw
  refine opK (M' := fun u => Row u tb #[.pointer none] 26 ∧ SRep S N 4 tg0 u ∧ Since B M u) h (.pointer (some ⟨tb, 0, none⟩)) rfl (by kernel_rfl) rfl (fun u hu hs => ⟨u.alloc (Obj.cells #[.pointer none] 26), .inl ?_, ?_⟩) fun w3 h3 _ => ?_
  · rw [htb, ← hs]; go_simp
  · have hg : Gr u (u.alloc (Obj.cells #[.pointer none] 26)) := Gr.of_sm0 (F := fun _ => False) ((Sm.refl _ _).alloc _) fun _ h => h.elim
    exact ⟨by rw [htb, ← hs]; exact Row.new u _ _, GM.keep u _ hg hu.1, hgs.keep u _ hg hu.2⟩
  have htl : tb < w3.heap.size := by obtain ⟨u, hp, hu⟩ := h3.get; rw [← hp.size]; exact hu.1.lt
  clear h htb
  try walk_nrm
  refine opK (M' := fun u => SRep S N 4 tg0 u ∧ True ∧ Row u tb #[.pointer (some ⟨S, 0, none⟩)] 26 ∧ Since B M u) h3 undef rfl (by kernel_rfl) rfl (fun u hu hs => ⟨u.setCell ⟨tb, 0, none⟩ (.pointer (some ⟨S, 0, none⟩)), .inr ⟨?_, rfl⟩, ?_⟩) fun w4 h hz4 => ?_
  · have hc := hu.1.cell 0
    have hf := hu.1.free 0
    go_simp
  · exact ⟨(stkJob S N 4).frame tg0 u _ (fun x hx => Below.heap_setCell _ _ _ _ (fun e => by have e : x = tb := e; rcases hx with hx | hx <;> omega)) hu.2.1, trivial, hu.1.set 0 _, hu.2.2.sm ((Sm.refl (fun b => b = tb) _).setCell rfl _) fun x hx => by omega⟩
  clear h3
  have htl : tb < w4.heap.size := by omega
  clear hz4
  try walk_nrm
  refine valE O rfl (.int .i64 0) rfl rfl (fun _ => by simp [go_sem]) (fun _ => by go_simp; try (first | rfl | (simp [*]))) ?_; try walk_nrm
  refine cpsR_nil O ?_
  show cps _ _ _ _ _ _
  repeat refine cps_seq O ?_
  (refine cps_region O ?_; simp only [List.size_toArray, List.length_cons, List.length_nil, Nat.reduceAdd, Nat.zero_add, List.range, List.range.loop])
  refine valE O rfl (.int .i64 0) rfl rfl (fun _ => by simp [go_sem]) (fun _ => by go_simp; try (first | rfl | (simp [*]))) ?_; try walk_nrm
  refine valE O rfl (.bool false) rfl rfl (fun _ => by simp [go_sem]) (fun _ => by go_simp; try (first | rfl | (simp [*]))) ?_; try walk_nrm
  refine valE O rfl (.bool false) rfl rfl (fun _ => by simp [go_sem]) (fun _ => by go_simp; try (first | rfl | (simp [*]))) ?_; try walk_nrm
  refine opK h (.pointer (some ⟨S, 0, none⟩)) rfl (by kernel_rfl) rfl (fun u hu _ => ⟨u, .inl (by have hc := hu.2.2.1.cell 0; go_simp), hu⟩) fun _ h _ => ?_
  try walk_nrm
  refine opK h (.bool false) rfl (by kernel_rfl) rfl (fun u hu _ => ⟨u, .inl (by go_simp), hu⟩) fun _ h _ => ?_; try walk_nrm
  refine valE O rfl (.bool false) rfl rfl (fun _ => by simp [go_sem]) (fun _ => by go_simp; try (first | rfl | (simp [*]))) ?_; try walk_nrm
  refine cpsR_nil O ?_
  show cps _ _ _ _ _ _
  refine cps_cond O (v := false) rfl ?_
  simp only [Bool.false_eq_true, if_false]
  refine cps_skip O ?_
  show cps _ _ _ _ _ _
  have G0 : ∀ N', Gate0 (stkJob S N 4) Wm ⟨N', n⟩ .nilIface (fun _ _ => True) (fun u => Row u tb #[.pointer (some ⟨S, 0, none⟩)] 26 ∧ Since B M u) := fun _ => gateNil inferInstance fun a u u' _ k hm => ⟨hm.1.sm k fun hf => by rcases hf with hf | hf <;> omega, hm.2.sm k fun b hb => by rcases hb with rfl | rfl <;> omega⟩
  repeat refine cps_seq O ?_
  (refine cps_region O ?_; simp only [List.size_toArray, List.length_cons, List.length_nil, Nat.reduceAdd, Nat.zero_add, List.range, List.range.loop])
  refine opK h (.pointer (some ⟨S, 0, none⟩)) rfl (by kernel_rfl) rfl (fun u hu _ => ⟨u, .inl (by have hc := hu.2.2.1.cell 0; go_simp), hu⟩) fun _ h _ => ?_
  try walk_nrm
  refine valE O rfl (.int .u64 a) rfl rfl (fun _ => by simp [go_sem]) (fun _ => by go_simp; try (first | rfl | (simp [*]))) ?_; try walk_nrm
  refine callE O rfl (f := 13) (vals := #[.pointer (some ⟨S, 0, none⟩), .nilIface, .int .u64 a]) rfl rfl rfl Try.func13 rfl rfl rfl (push_l (G0 none) ha h tag_p1 (by decide) fun w5 h5 => ?_)
  clear h
  try walk_nrm
  refine cpsR_nil O ?_
  show cps _ _ _ _ _ _
  repeat refine cps_seq O ?_
  (refine cps_region O ?_; simp only [List.size_toArray, List.length_cons, List.length_nil, Nat.reduceAdd, Nat.zero_add, List.range, List.range.loop])
  refine opK h5 (.pointer (some ⟨S, 0, none⟩)) rfl (by kernel_rfl) rfl (fun u hu _ => ⟨u, .inl (by have hc := hu.2.2.1.cell 0; go_simp), hu⟩) fun _ h _ => ?_
  try walk_nrm
  refine valE O rfl (.int .u64 b) rfl rfl (fun _ => by simp [go_sem]) (fun _ => by go_simp; try (first | rfl | (simp [*]))) ?_; try walk_nrm
  refine callE O rfl (f := 13) (vals := #[.pointer (some ⟨S, 0, none⟩), .nilIface, .int .u64 b]) rfl rfl rfl Try.func13 rfl rfl rfl (push_l (L := []) (G0 none) hb h tag_p2 (by decide) fun w6 h6 => ?_)
  clear h h5
  try walk_nrm
  refine cpsR_nil O ?_
  show cps _ _ _ _ _ _
  repeat refine cps_seq O ?_
  (refine cps_region O ?_; simp only [List.size_toArray, List.length_cons, List.length_nil, Nat.reduceAdd, Nat.zero_add, List.range, List.range.loop])
  refine opK h6 (.pointer (some ⟨S, 0, none⟩)) rfl (by kernel_rfl) rfl (fun u hu _ => ⟨u, .inl (by have hc := hu.2.2.1.cell 0; go_simp), hu⟩) fun _ h _ => ?_
  try walk_nrm
  refine valE O rfl (.int .u64 c) rfl rfl (fun _ => by simp [go_sem]) (fun _ => by go_simp; try (first | rfl | (simp [*]))) ?_; try walk_nrm
  refine callE O rfl (f := 13) (vals := #[.pointer (some ⟨S, 0, none⟩), .nilIface, .int .u64 c]) rfl rfl rfl Try.func13 rfl rfl rfl (push_l (L := []) (G0 none) hc h tag_p3 (by decide) fun w7 h7 => ?_)
  clear h h6
  try walk_nrm
  refine cpsR_nil O ?_
  show cps _ _ _ _ _ _
  have h : Kn ⟨none, n⟩ (fun u => SRep S N 4 (tg3 a b c) u ∧ Row u tb #[.pointer (some ⟨S, 0, none⟩)] 26 ∧ Since B M u) w7 := h7.mono fun u hu => ⟨hu.1, hu.2.2⟩
  clear h7
  have hSN : N < tb ∧ S < tb := hSw
  obtain ⟨s1, hs1⟩ : ∃ s, s = (a + b) % 18446744073709551616 := ⟨_, rfl⟩
  obtain ⟨s2, hs2⟩ : ∃ s, s = (s1 + c) % 18446744073709551616 := ⟨_, rfl⟩
  obtain ⟨d, hd⟩ : ∃ d, d = (s2 + 1) % 18446744073709551616 := ⟨_, rfl⟩
  have e1 : IntKind.u64.wrap ((a : Int) + b) = (s1 : Int) := by rw [IntKind.wrap_u64]; omega
  have e2 : IntKind.u64.wrap ((s1 : Int) + c) = (s2 : Int) := by rw [IntKind.wrap_u64]; omega
  have e3 : IntKind.u64.wrap ((s2 : Int) + 1) = (d : Int) := by rw [IntKind.wrap_u64]; omega
  have hdl : d < 18446744073709551616 := by omega
  clear hs1 hs2 hd
  repeat refine cps_seq O ?_
  (refine cps_region O ?_; simp only [List.size_toArray, List.length_cons, List.length_nil, Nat.reduceAdd, Nat.zero_add, List.range, List.range.loop])
  refine valE O rfl (.int .u64 a) rfl rfl (fun _ => by simp [go_sem]) (fun _ => by go_simp; try (first | rfl | (simp [*]))) ?_; try walk_nrm
  refine valE O rfl (.int .u64 b) rfl rfl (fun _ => by simp [go_sem]) (fun _ => by go_simp; try (first | rfl | (simp [*]))) ?_; try walk_nrm
  refine valE O rfl (.int .u64 s1) rfl rfl (fun _ => by simp [go_sem]) (fun _ => by go_simp; try (first | rfl | (simp [*]))) ?_; try walk_nrm
  refine valE O rfl (.int .u64 c) rfl rfl (fun _ => by simp [go_sem]) (fun _ => by go_simp; try (first | rfl | (simp [*]))) ?_; try walk_nrm
  refine valE O rfl (.int .u64 s2) rfl rfl (fun _ => by simp [go_sem]) (fun _ => by go_simp; try (first | rfl | (simp [*]))) ?_; try walk_nrm
  refine valE O rfl (.int .u64 d) rfl rfl (fun _ => by simp [go_sem]) (fun _ => by go_simp; try (first | rfl | (simp [*]))) ?_; try walk_nrm
  clear e1 e2 e3
  have htl : tb < w7.heap.size := by obtain ⟨u, hp, hu⟩ := h.get; rw [← hp.size]; exact hu.2.1.lt
  obtain ⟨db, hdb⟩ : ∃ db, db = w7.heap.size := ⟨_, rfl⟩
  rw [← hdb] at htl
  refine opK (M' := fun u => Row u db #[.int .u64 0] 30 ∧ SRep S N 4 (tg3 a b c) u ∧ Row u tb #[.pointer (some ⟨S, 0, none⟩)] 26 ∧ Since B M u) h (.pointer (some ⟨db, 0, none⟩)) rfl (by kernel_rfl) rfl (fun u hu hs => ⟨u.alloc (Obj.cells #[.int .u64 0] 30), .inl ?_, ?_⟩) fun w8 h8 _ => ?_
  · rw [hdb, ← hs]; go_simp
  · have hg : Gr u (u.alloc (Obj.cells #[.int .u64 0] 30)) := Gr.of_sm0 (F := fun _ => False) ((Sm.refl _ _).alloc _) fun _ h => h.elim
    exact ⟨by rw [hdb, ← hs]; exact Row.new u _ _, gm_srep.keep u _ hg hu.1, gm_row.keep u _ hg hu.2.1, hgs.keep u _ hg hu.2.2⟩
  clear h hdb
  try walk_nrm
  refine opK (M' := fun u => Row u db #[.int .u64 d] 30 ∧ SRep S N 4 (tg3 a b c) u ∧ Row u tb #[.pointer (some ⟨S, 0, none⟩)] 26 ∧ Since B M u) h8 undef rfl (by kernel_rfl) rfl (fun u hu hs => ⟨u.setCell ⟨db, 0, none⟩ (.int .u64 d), .inr ⟨?_, rfl⟩, ?_⟩) fun w9 h _ => ?_
  · have hc := hu.1.cell 0
    have hf := hu.1.free 0
    go_simp
  · exact ⟨hu.1.set 0 _, (stkJob S N 4).frame (tg3 a b c) u _ (fun x hx => Below.heap_setCell _ _ _ _ (fun e => by have e : x = db := e; rcases hx with hx | hx <;> omega)) hu.2.1, hu.2.2.1.set_ne (fun e => by have e : db = tb := e; omega) _, hu.2.2.2.sm ((Sm.refl (fun b => b = db) _).setCell rfl _) fun x hx => by omega⟩
  clear h8
  try walk_nrm
  refine cpsR_nil O ?_
  show cps _ _ _ _ _ _
  have hdl2 : db < w9.heap.size := by obtain ⟨u, hp, hu⟩ := h.get; rw [← hp.size]; exact hu.1.lt
  obtain ⟨gb, hgb⟩ : ∃ gb, gb = w9.heap.size := ⟨_, rfl⟩
  rw [← hgb] at hdl2
  repeat refine cps_seq O ?_
  (refine cps_region O ?_; simp only [List.size_toArray, List.length_cons, List.length_nil, Nat.reduceAdd, Nat.zero_add, List.range, List.range.loop])
  refine opK (M' := fun u => Row u gb #[.int .u64 0, .int .u64 0, .int .u64 0] 95 ∧ Row u db #[.int .u64 d] 30 ∧ SRep S N 4 (tg3 a b c) u ∧ Row u tb #[.pointer (some ⟨S, 0, none⟩)] 26 ∧ Since B M u) h (.pointer (some ⟨gb, 0, none⟩)) rfl (by kernel_rfl) rfl (fun u hu hs => ⟨u.alloc (Obj.cells #[.int .u64 0, .int .u64 0, .int .u64 0] 95), .inl ?_, ?_⟩) fun w10 h10 _ => ?_
  · rw [hgb, ← hs]; go_simp
  · have hg : Gr u (u.alloc (Obj.cells #[.int .u64 0, .int .u64 0, .int .u64 0] 95)) := Gr.of_sm0 (F := fun _ => False) ((Sm.refl _ _).alloc _) fun _ h => h.elim
    exact ⟨by rw [hgb, ← hs]; exact Row.new u _ _, gm_row.keep u _ hg hu.1, gm_srep.keep u _ hg hu.2.1, gm_row.keep u _ hg hu.2.2.1, hgs.keep u _ hg hu.2.2.2⟩
  clear h hgb
  try walk_nrm
  refine cpsR_nil O ?_
  show cps _ _ _ _ _ _
  have hgl : gb < w10.heap.size := by obtain ⟨u, hp, hu⟩ := h10.get; rw [← hp.size]; exact hu.1.lt
  obtain ⟨ob, hob⟩ : ∃ ob, ob = w10.heap.size := ⟨_, rfl⟩
  rw [← hob] at hgl
  repeat refine cps_seq O ?_
  (refine cps_region O ?_; simp only [List.size_toArray, List.length_cons, List.length_nil, Nat.reduceAdd, Nat.zero_add, List.range, List.range.loop])
  refine opK (M' := fun u => Row u ob #[.bool false, .bool false, .bool false, .bool false] 96 ∧ Row u gb #[.int .u64 0, .int .u64 0, .int .u64 0] 95 ∧ Row u db #[.int .u64 d] 30 ∧ SRep S N 4 (tg3 a b c) u ∧ Row u tb #[.pointer (some ⟨S, 0, none⟩)] 26 ∧ Since B M u) h10 (.pointer (some ⟨ob, 0, none⟩)) rfl (by kernel_rfl) rfl (fun u hu hs => ⟨u.alloc (Obj.cells #[.bool false, .bool false, .bool false, .bool false] 96), .inl ?_, ?_⟩) fun w11 h11 _ => ?_
  · rw [hob, ← hs]; go_simp
  · have hg : Gr u (u.alloc (Obj.cells #[.bool false, .bool false, .bool false, .bool false] 96)) := Gr.of_sm0 (F := fun _ => False) ((Sm.refl _ _).alloc _) fun _ h => h.elim
    exact ⟨by rw [hob, ← hs]; exact Row.new u _ _, gm_row.keep u _ hg hu.1, gm_row.keep u _ hg hu.2.1, gm_srep.keep u _ hg hu.2.2.1, gm_row.keep u _ hg hu.2.2.2.1, hgs.keep u _ hg hu.2.2.2.2⟩
  clear h10 hob
  try walk_nrm
  refine cpsR_nil O ?_
  show cps _ _ _ _ _ _
  have hol : ob < w11.heap.size := by obtain ⟨u, hp, hu⟩ := h11.get; rw [← hp.size]; exact hu.1.lt
  have h : Kn ⟨none, n⟩ (fun u => (tagK B S N 4 tb gb ob db d).core.Rep (tg3 a b c, (⟨0, 0, 0, false, false, false, false⟩ : TB)) u ∧ Since B M u) w11 := h11.mono fun u hu => ⟨⟨hu.2.2.2.1, ⟨hu.2.2.2.2.1, hu.2.1, hu.1, hu.2.2.1, by omega, by omega, by omega, by omega, by omega⟩, fun x hx hf => by
    have hx : x = S ∨ x = N := hx
    have hf : x = tb ∨ x = gb ∨ x = ob ∨ x = db := hf
    omega⟩, hu.2.2.2.2.2⟩
  clear h11
  obtain ⟨og, hog⟩ : ∃ og, og = w11.heap.size := ⟨_, rfl⟩
  rw [← hog] at hol
  obtain ⟨a0, ha0⟩ : ∃ a0 : (tagK B S N 4 tb gb ob db d).core.St, a0 = (tg3 a b c, (⟨0, 0, 0, false, false, false, false⟩ : TB)) := ⟨_, rfl⟩
  have h : Kn ⟨none, n⟩ (fun u => (tagK B S N 4 tb gb ob db d).core.Rep a0 u ∧ Since B M u) w11 := by rw [ha0]; exact h
  have Ha0 := Lib.hid ha0
  clear ha0
  repeat refine cps_seq O ?_
  (refine cps_region O ?_; simp only [List.size_toArray, List.length_cons, List.length_nil, Nat.reduceAdd, Nat.zero_add, List.range, List.range.loop])
  refine opK (M' := fun u => Row u og (tagOrder.map (Value.int .i64)).toArray 3 ∧ (tagK B S N 4 tb gb ob db d).core.Rep a0 u ∧ Since B M u) h (.slice (some ⟨og, 0, none⟩) 23 23) rfl (by kernel_rfl) rfl (fun u hu hs => ⟨u.alloc (Obj.cells (tagOrder.map (Value.int .i64)).toArray 3), .inl ?_, ?_⟩) fun w12 h12 _ => ?_
  · rw [hog, ← hs]
    unfold tagOrder
    go_simp
  · have hg : Gr u (u.alloc (Obj.cells (tagOrder.map (Value.int .i64)).toArray 3)) := Gr.of_sm0 (F := fun _ => False) ((Sm.refl _ _).alloc _) fun _ h => h.elim
    exact ⟨by rw [hog, ← hs]; exact Row.new u _ _, gm_core.keep u _ hg hu.1, hgs.keep u _ hg hu.2⟩
  clear h hog
  try walk_nrm
  have hogl : og < w12.heap.size := by obtain ⟨u, hp, hu⟩ := h12.get; rw [← hp.size]; exact hu.1.lt
  obtain ⟨fg, hfg⟩ : ∃ fg, fg = w12.heap.size := ⟨_, rfl⟩
  rw [← hfg] at hogl
  refine valE O rfl (.func (.func 38) #[] #[.pointer (some ⟨tb, 0, none⟩), .pointer (some ⟨gb, 0, none⟩), .pointer (some ⟨ob, 0, none⟩)]) rfl rfl (fun _ => by simp [go_sem]) (fun _ => by go_simp; try (first | rfl | (simp [*]))) ?_; try walk_nrm
  refine valE O rfl (.func (.func 39) #[] #[.pointer (some ⟨tb, 0, none⟩), .pointer (some ⟨gb, 0, none⟩), .pointer (some ⟨ob, 0, none⟩), .pointer (some ⟨db, 0, none⟩)]) rfl rfl (fun _ => by simp [go_sem]) (fun _ => by go_simp; try (first | rfl | (simp [*]))) ?_; try walk_nrm
  refine valE O rfl (.func (.func 40) #[] #[.pointer (some ⟨tb, 0, none⟩), .pointer (some ⟨gb, 0, none⟩), .pointer (some ⟨ob, 0, none⟩)]) rfl rfl (fun _ => by simp [go_sem]) (fun _ => by go_simp; try (first | rfl | (simp [*]))) ?_; try walk_nrm
  refine opK (M' := fun u => Row u fg ((tagThr B S N tb gb ob db d).map Thr.val).toArray tFn ∧ Row u og (tagOrder.map (Value.int .i64)).toArray 3 ∧ (tagK B S N 4 tb gb ob db d).core.Rep a0 u ∧ Since B M u) h12 (.slice (some ⟨fg, 0, none⟩) 3 3) rfl (by kernel_rfl) rfl (fun u hu hs => ⟨u.alloc (Obj.cells ((tagThr B S N tb gb ob db d).map Thr.val).toArray tFn), .inl ?_, ?_⟩) fun w13 h13 _ => ?_
  · rw [hfg, ← hs]
    unfold tagThr Thr.val tFn
    go_simp
  · have hg : Gr u (u.alloc (Obj.cells ((tagThr B S N tb gb ob db d).map Thr.val).toArray tFn)) := Gr.of_sm0 (F := fun _ => False) ((Sm.refl _ _).alloc _) fun _ h => h.elim
    exact ⟨by rw [hfg, ← hs]; exact Row.new u _ _, gm_row.keep u _ hg hu.1, gm_core.keep u _ hg hu.2.1, hgs.keep u _ hg hu.2.2⟩
  clear h12 hfg
  try walk_nrm
  have hT := Kn.true rfl h13
  obtain ⟨hT1, hT2, hT3, hT4⟩ := hT
  have hfgl := hT1.lt
  have ha0 := Ha0.out
  subst ha0
  obtain ⟨o₀, ho₀⟩ : ∃ o₀ : Own, o₀ = ⟨fun x => if x < B ∨ x = og ∨ x = fg then w13.heap[x]? else none, w13.os, w13.output⟩ := ⟨_, rfl⟩
  have hin : ∀ x, (x < B ∨ x = og ∨ x = fg) → o₀ x = w13.heap[x]? := fun x hx => by rw [ho₀]; exact if_pos hx
  have hout : ∀ x, ¬ (x < B ∨ x = og ∨ x = fg) → o₀ x = none := fun x hx => by rw [ho₀]; exact if_neg hx
  have hosn : w13.os = o₀.os ∧ w13.output = o₀.out := by rw [ho₀]; exact ⟨rfl, rfl⟩
  clear ho₀ Ha0
  have hseen : ∀ x o', o₀ x = some o' → (x < B ∨ x = og ∨ x = fg) ∧ w13.heap[x]? = some o' := fun x o' hx => by
    by_cases hc : x < B ∨ x = og ∨ x = fg
    · exact ⟨hc, by rw [← hin x hc]; exact hx⟩
    · rw [hout x hc] at hx; cases hx
  have hBog : B < og := by omega
  refine callE O rfl (f := 31) (vals := #[.slice (some ⟨og, 0, none⟩) 23 23, .slice (some ⟨fg, 0, none⟩) 3 3]) rfl rfl rfl Try.func31 rfl rfl rfl ?_
  refine play_c (x := ⟨none, n⟩) (Y := (tagK B S N 4 tb gb ob db d).core) (ths := tagThr B S N tb gb ob db d) (order := tagOrder) (o₀ := o₀) (a := (tg3 a b c, (⟨0, 0, 0, false, false, false, false⟩ : TB))) hW rfl hn0 hn hosn (fun x o' hx => ?_) (show B ≤ _ by omega) (fun v hv => ?_) (fun x hx => ?_) (by decide) (by decide) (fun v hv => ?_) (fun x hx => ?_) (by simp [tagThr]) (by simp [tagThr]) (fun t ht => ?_) hT3 (fun x hx => ?_) ?_ (fun Wg B0 vt w14 hWg hB0 hsz hpl => ?_)
  · obtain ⟨h1, h2⟩ := hseen x o' hx
    refine ⟨h2, ?_⟩
    rcases h1 with h1 | rfl | rfl
    · exact .inl h1
    · unfold Row at hT2
      rw [hT2] at h2
      exact .inr fun _ _ _ _ _ _ e => by rw [e] at h2; cases h2
    · unfold Row at hT1
      rw [hT1] at h2
      exact .inr fun _ _ _ _ _ _ e => by rw [e] at h2; cases h2
  · have h1 : Row v og (tagOrder.map (Value.int .i64)).toArray 3 := hv og _ (by rw [hin og (.inr (.inl rfl))]; exact hT2)
    exact own_row h1 23 1 rfl (by unfold maxLen; omega)
  · obtain rfl : og = x := by simpa [Value.ownBlock] using hx
    rw [hin og (.inr (.inl rfl))]
    unfold Row at hT2
    rw [hT2]; simp
  · have h1 : Row v fg ((tagThr B S N tb gb ob db d).map Thr.val).toArray tFn := hv fg _ (by rw [hin fg (.inr (.inr rfl))]; exact hT1)
    exact own_row h1 3 1 rfl (by unfold maxLen; omega)
  · obtain rfl : fg = x := by simpa [Value.ownBlock] using hx
    rw [hin fg (.inr (.inr rfl))]
    unfold Row at hT1
    rw [hT1]; simp
  · unfold tagThr at ht
    simp only [List.mem_cons, List.not_mem_nil, or_false] at ht
    rcases ht with rfl | rfl | rfl
    · exact tag_a
    · exact tag_b hdl
    · exact tag_c
  · have hx : (x = S ∨ x = N) ∨ (x = tb ∨ x = gb ∨ x = ob ∨ x = db) := hx
    exact hout x (by omega)
  · show ∀ p ∈ (tagPlay B S N tb gb ob db a b c d).ps, p = none
    rw [tag_over]
    simp
  have hpl : Played (tagK B S N 4 tb gb ob db d).core Wg B0 o₀ (tagPlay B S N tb gb ob db a b c d).a (tagPlay B S N tb gb ob db a b c d).tr vt w14 := hpl
  rw [tag_state] at hpl
  have htr := tag_turns (B := B) (S := S) (N := N) (tb := tb) (gb := gb) (ob := ob) (db := db) (a := a) (b := b) (c := c) (d := d)
  obtain ⟨tr, htr0⟩ : ∃ tr, tr = (tagPlay B S N tb gb ob db a b c d).tr := ⟨_, rfl⟩
  rw [← htr0] at htr hpl
  clear htr0
  have hk := hpl.kn (N := n + 3) hT4 (by omega) (fun x hx => hin x (.inl hx)) hosn hsz
  obtain ⟨av, cv, hvt⟩ := own_form0 hpl.trace
  rw [htr] at hvt
  subst hvt
  have hfin : ∀ t' w', t'.getD 6 undef = .bool true → Kn ⟨some Wg, n + 3⟩ M w' → Q ⟨some Wg, n + 3⟩ .ret t' w' := fun t' w' h1 h2 => Hq.out Wg t' w' (by omega) h1 h2
  have Hf := Lib.hid hfin
  have h : Kn ⟨some Wg, n + 3⟩ (fun u => SRep S N 4 (tg4 a b d) u ∧ TBRep S tb gb ob db d ⟨d, c, b, true, true, true, true⟩ u ∧ Since B M u) w14 := hk.mono fun u hu => ⟨hu.1.1, hu.1.2.1, hu.2.2⟩
  clear hk hpl hT1 hT2 hT3 hT4 h13 hin hout hosn hseen hfin Hq
  show cpsR (envL Wm) _ _ _ ⟨some Wg, n + 3⟩ _ _
  try walk_nrm
  have hob14 : ob < w14.heap.size := by obtain ⟨u, hp, hu⟩ := h.get; rw [← hp.size]; exact hu.2.1.ro.lt
  refine valE O rfl (.tuple #[.agg #[.slice av 31 cv, .slice none 0 0], .int .i64 0]) rfl rfl (fun _ => by simp [go_sem]) (fun _ => by go_simp; try (first | rfl | (simp [*]))) ?_; try walk_nrm
  refine valE O rfl (.agg #[.slice av 31 cv, .slice none 0 0]) rfl rfl (fun _ => by simp [go_sem]) (fun _ => by go_simp; try (first | rfl | (simp [*]))) ?_; try walk_nrm
  refine valE O rfl (.int .i64 0) rfl rfl (fun _ => by simp [go_sem]) (fun _ => by go_simp; try (first | rfl | (simp [*]))) ?_; try walk_nrm
  obtain ⟨pb, hpb⟩ : ∃ pb, pb = w14.heap.size := ⟨_, rfl⟩
  have hfre : tb < pb ∧ gb < pb ∧ ob < pb ∧ db < pb ∧ S < pb ∧ N < pb := by omega
  refine opK (M' := fun u => Row u pb #[.slice none 0 0, .slice none 0 0] 81 ∧ SRep S N 4 (tg4 a b d) u ∧ TBRep S tb gb ob db d ⟨d, c, b, true, true, true, true⟩ u ∧ Since B M u) h (.pointer (some ⟨pb, 0, none⟩)) rfl (by kernel_rfl) rfl (fun u hu hs => ⟨u.alloc (Obj.cells #[.slice none 0 0, .slice none 0 0] 81), .inl ?_, ?_⟩) fun w15 h15 _ => ?_
  · rw [hpb, ← hs]; go_simp
  · have hg : Gr u (u.alloc (Obj.cells #[.slice none 0 0, .slice none 0 0] 81)) := Gr.of_sm0 (F := fun _ => False) ((Sm.refl _ _).alloc _) fun _ h => h.elim
    exact ⟨by rw [hpb, ← hs]; exact Row.new u _ _, gm_srep.keep u _ hg hu.1, gm_tb.keep u _ hg hu.2.1, hgs.keep u _ hg hu.2.2⟩
  have hBp : B ≤ pb := by omega
  clear h hpb hob14
  try walk_nrm
  refine opK (M' := fun u => Row u pb #[.slice av 31 cv, .slice none 0 0] 81 ∧ SRep S N 4 (tg4 a b d) u ∧ TBRep S tb gb ob db d ⟨d, c, b, true, true, true, true⟩ u ∧ Since B M u) h15 undef rfl (by kernel_rfl) rfl (fun u hu hs => ⟨(u.setCell ⟨pb, 0, none⟩ (.slice av 31 cv)).setCell ⟨pb, 1, none⟩ (.slice none 0 0), .inr ⟨?_, rfl⟩, ?_⟩) fun w16 h _ => ?_
  · have hc0 := hu.1.cell 0
    have hf0 := hu.1.free 0
    have h1 := hu.1.set 0 (.slice av 31 cv)
    have hc1 := h1.cell 1
    have hf1 := h1.free 1
    go_simp
  · refine ⟨(hu.1.set 0 (.slice av 31 cv)).set 1 (.slice none 0 0), ?_, ?_, ?_⟩
    · exact (stkJob S N 4).frame (tg4 a b d) u _ (fun x hx => (Below.heap_setCell _ _ _ _ (fun e => by have e : x = pb := e; rcases hx with hx | hx <;> omega)).trans (Below.heap_setCell _ _ _ _ (fun e => by have e : x = pb := e; rcases hx with hx | hx <;> omega))) hu.2.1
    · exact (tagK B S N 4 tb gb ob db d).frameB _ u _ (fun x hx => (Below.heap_setCell _ _ _ _ (fun e => by have e : x = pb := e; rcases hx with hx | hx | hx | hx <;> omega)).trans (Below.heap_setCell _ _ _ _ (fun e => by have e : x = pb := e; rcases hx with hx | hx | hx | hx <;> omega))) hu.2.2.1
    · exact hu.2.2.2.sm (((Sm.refl (fun b => b = pb) _).setCell rfl _).setCell rfl _) fun x hx => by omega
  clear h15
  try walk_nrm
  refine valE O rfl (.int .i64 0) rfl rfl (fun _ => by simp [go_sem]) (fun _ => by go_simp; try (first | rfl | (simp [*]))) ?_; try walk_nrm
  refine cpsR_nil O ?_
  show cps _ _ _ _ _ _
  repeat refine cps_seq O ?_
  (refine cps_region O ?_; simp only [List.size_toArray, List.length_cons, List.length_nil, Nat.reduceAdd, Nat.zero_add, List.range, List.range.loop])
  refine valE O rfl (.int .i64 0) rfl rfl (fun _ => by simp [go_sem]) (fun _ => by go_simp; try (first | rfl | (simp [*]))) ?_; try walk_nrm
  refine valE O rfl (.bool false) rfl rfl (fun _ => by simp [go_sem]) (fun _ => by go_simp; try (first | rfl | (simp [*]))) ?_; try walk_nrm
  refine valE O rfl (.bool false) rfl rfl (fun _ => by simp [go_sem]) (fun _ => by go_simp; try (first | rfl | (simp [*]))) ?_; try walk_nrm
  refine opK h (.pointer (some ⟨pb, 1, none⟩)) rfl (by kernel_rfl) rfl (fun u hu _ => ⟨u, .inl (by go_simp), hu⟩) fun _ h _ => ?_; try walk_nrm
  refine opK h (.slice none 0 0) rfl (by kernel_rfl) rfl (fun u hu _ => ⟨u, .inl (by have hc := hu.1.cell 1; go_simp), hu⟩) fun _ h _ => ?_
  try walk_nrm
  refine valE O rfl (.int .i64 0) rfl rfl (fun _ => by simp [go_sem]) (fun _ => by go_simp; try (first | rfl | (simp [*]))) ?_; try walk_nrm
  refine valE O rfl (.bool false) rfl rfl (fun _ => by simp [go_sem]) (fun _ => by go_simp; try (first | rfl | (simp [*]))) ?_; try walk_nrm
  refine valE O rfl (.bool false) rfl rfl (fun _ => by simp [go_sem]) (fun _ => by go_simp; try (first | rfl | (simp [*]))) ?_; try walk_nrm
  refine valE O rfl (.bool false) rfl rfl (fun _ => by simp [go_sem]) (fun _ => by go_simp; try (first | rfl | (simp [*]))) ?_; try walk_nrm
  refine opK h (.pointer (some ⟨pb, 0, none⟩)) rfl (by kernel_rfl) rfl (fun u hu _ => ⟨u, .inl (by go_simp), hu⟩) fun _ h _ => ?_; try walk_nrm
  refine opK h (.slice av 31 cv) rfl (by kernel_rfl) rfl (fun u hu _ => ⟨u, .inl (by have hc := hu.1.cell 0; go_simp), hu⟩) fun _ h _ => ?_
  try walk_nrm
  refine valE O rfl (.int .i64 31) rfl rfl (fun _ => by simp [go_sem]) (fun _ => by go_simp; try (first | rfl | (simp [*]))) ?_; try walk_nrm
  refine valE O rfl (.bool false) rfl rfl (fun _ => by simp [go_sem]) (fun _ => by go_simp; try (first | rfl | (simp [*]))) ?_; try walk_nrm
  refine valE O rfl (.bool false) rfl rfl (fun _ => by simp [go_sem]) (fun _ => by go_simp; try (first | rfl | (simp [*]))) ?_; try walk_nrm
  refine valE O rfl (.bool false) rfl rfl (fun _ => by simp [go_sem]) (fun _ => by go_simp; try (first | rfl | (simp [*]))) ?_; try walk_nrm
  refine opK h (.agg #[.bool true, .bool true, .bool true, .bool true]) rfl (by kernel_rfl) rfl (fun u hu _ => ⟨u, .inl (by have hc := hu.2.2.1.ro.cell 0; have hc1 := hu.2.2.1.ro.cell 1; have hc2 := hu.2.2.1.ro.cell 2; have hc3 := hu.2.2.1.ro.cell 3; go_simp), hu⟩) fun _ h _ => ?_
  try walk_nrm
  refine valE O rfl (.agg #[.bool true, .bool true, .bool true, .bool true]) rfl rfl (fun _ => by simp [go_sem]) (fun _ => by go_simp; try (first | rfl | (simp [*]))) ?_; try walk_nrm
  have heq := eq_four
  refine opK h (.bool false) rfl (by kernel_rfl) rfl (fun u hu _ => ⟨u, .inl (by go_simp), hu⟩) fun _ h _ => ?_; try walk_nrm
  clear heq
  refine valE O rfl (.bool false) rfl rfl (fun _ => by simp [go_sem]) (fun _ => by go_simp; try (first | rfl | (simp [*]))) ?_; try walk_nrm
  refine valE O rfl (.bool false) rfl rfl (fun _ => by simp [go_sem]) (fun _ => by go_simp; try (first | rfl | (simp [*]))) ?_; try walk_nrm
  refine opK h (.agg #[.int .u64 d, .int .u64 c, .int .u64 b]) rfl (by kernel_rfl) rfl (fun u hu _ => ⟨u, .inl (by have hc := hu.2.2.1.rg.cell 0; have hc1 := hu.2.2.1.rg.cell 1; have hc2 := hu.2.2.1.rg.cell 2; go_simp), hu⟩) fun _ h _ => ?_
  try walk_nrm
  refine opK h (.int .u64 d) rfl (by kernel_rfl) rfl (fun u hu _ => ⟨u, .inl (by have hc := hu.2.2.1.rd.cell 0; go_simp), hu⟩) fun _ h _ => ?_
  try walk_nrm
  refine valE O rfl (.int .u64 c) rfl rfl (fun _ => by simp [go_sem]) (fun _ => by go_simp; try (first | rfl | (simp [*]))) ?_; try walk_nrm
  refine valE O rfl (.int .u64 b) rfl rfl (fun _ => by simp [go_sem]) (fun _ => by go_simp; try (first | rfl | (simp [*]))) ?_; try walk_nrm
  refine valE O rfl (.agg #[.int .u64 d, .int .u64 c, .int .u64 b]) rfl rfl (fun _ => by simp [go_sem]) (fun _ => by go_simp; try (first | rfl | (simp [*]))) ?_; try walk_nrm
  have heq := eq_three d c b
  refine opK h (.bool false) rfl (by kernel_rfl) rfl (fun u hu _ => ⟨u, .inl (by go_simp), hu⟩) fun _ h _ => ?_; try walk_nrm
  clear heq
  refine valE O rfl (.bool false) rfl rfl (fun _ => by simp [go_sem]) (fun _ => by go_simp; try (first | rfl | (simp [*]))) ?_; try walk_nrm
  refine cpsR_nil O ?_
  show cps _ _ _ _ _ _
  refine cps_cond O (v := false) rfl ?_
  simp only [Bool.false_eq_true, if_false]
  refine cps_skip O ?_
  show cps _ _ _ _ _ _
  have h : Kn ⟨some Wg, n + 3⟩ (fun u => SRep S N 4 (tg4 a b d) u ∧ True ∧ Row u tb #[.pointer (some ⟨S, 0, none⟩)] 26 ∧ Since B M u) _ := h.mono fun u hu => ⟨hu.2.1, trivial, hu.2.2.1.rt, hu.2.2.2⟩
  have G1 : Gate0 (stkJob S N 4) Wm ⟨some Wg, n + 3⟩ .nilIface (fun _ _ => True) (fun u => Row u tb #[.pointer (some ⟨S, 0, none⟩)] 26 ∧ Since B M u) := gateNil inferInstance fun a u u' _ k hm => ⟨hm.1.sm k fun hf => by rcases hf with hf | hf <;> omega, hm.2.sm k fun b hb => by rcases hb with rfl | rfl <;> omega⟩
  repeat refine cps_seq O ?_
  (refine cps_region O ?_; simp only [List.size_toArray, List.length_cons, List.length_nil, Nat.reduceAdd, Nat.zero_add, List.range, List.range.loop])
  refine opK h (.pointer (some ⟨S, 0, none⟩)) rfl (by kernel_rfl) rfl (fun u hu _ => ⟨u, .inl (by have hc := hu.2.2.1.cell 0; go_simp), hu⟩) fun _ h _ => ?_
  try walk_nrm
  refine callE O rfl (f := 14) (vals := #[.pointer (some ⟨S, 0, none⟩), .nilIface]) rfl rfl rfl Try.func14 rfl rfl rfl (pop_l (L := []) G1 h tag_p4 (by decide) fun w17 h17 => ?_)
  clear h
  simp only [SRes.num, SRes.ok]
  try walk_nrm
  refine valE O rfl (.tuple #[.int .u64 a, .bool true, .int .i64 0]) rfl rfl (fun _ => by simp [go_sem]) (fun _ => by go_simp; try (first | rfl | (simp [*]))) ?_; try walk_nrm
  refine valE O rfl (.int .u64 a) rfl rfl (fun _ => by simp [go_sem]) (fun _ => by go_simp; try (first | rfl | (simp [*]))) ?_; try walk_nrm
  refine valE O rfl (.bool true) rfl rfl (fun _ => by simp [go_sem]) (fun _ => by go_simp; try (first | rfl | (simp [*]))) ?_; try walk_nrm
  refine valE O rfl (.int .i64 0) rfl rfl (fun _ => by simp [go_sem]) (fun _ => by go_simp; try (first | rfl | (simp [*]))) ?_; try walk_nrm
  refine valE O rfl (.int .u64 a) rfl rfl (fun _ => by simp [go_sem]) (fun _ => by go_simp; try (first | rfl | (simp [*]))) ?_; try walk_nrm
  refine valE O rfl (.bool true) rfl rfl (fun _ => by simp [go_sem]) (fun _ => by go_simp; try (first | rfl | (simp [*]))) ?_; try walk_nrm
  refine valE O rfl (.int .i64 0) rfl rfl (fun _ => by simp [go_sem]) (fun _ => by go_simp; try (first | rfl | (simp [*]))) ?_; try walk_nrm
  refine cpsR_nil O ?_
  show cps _ _ _ _ _ _
  repeat refine cps_seq O ?_
  (refine cps_region O ?_; simp only [List.size_toArray, List.length_cons, List.length_nil, Nat.reduceAdd, Nat.zero_add, List.range, List.range.loop])
  refine opK h17 (.pointer (some ⟨S, 0, none⟩)) rfl (by kernel_rfl) rfl (fun u hu _ => ⟨u, .inl (by have hc := hu.2.2.1.cell 0; go_simp), hu⟩) fun _ h _ => ?_
  try walk_nrm
  refine callE O rfl (f := 14) (vals := #[.pointer (some ⟨S, 0, none⟩), .nilIface]) rfl rfl rfl Try.func14 rfl rfl rfl (pop_l (L := []) G1 h tag_p5 (by decide) fun w18 h18 => ?_)
  clear h h17
  have h : Kn ⟨some Wg, n + 3⟩ M w18 := h18.mono fun u hu => hu.2.2.2.now
  simp only [SRes.num, SRes.ok]
  try walk_nrm
  refine valE O rfl (.tuple #[.int .u64 0, .bool false, .int .i64 0]) rfl rfl (fun _ => by simp [go_sem]) (fun _ => by go_simp; try (first | rfl | (simp [*]))) ?_; try walk_nrm
  refine valE O rfl (.int .u64 0) rfl rfl (fun _ => by simp [go_sem]) (fun _ => by go_simp; try (first | rfl | (simp [*]))) ?_; try walk_nrm
  refine valE O rfl (.bool false) rfl rfl (fun _ => by simp [go_sem]) (fun _ => by go_simp; try (first | rfl | (simp [*]))) ?_; try walk_nrm
  refine valE O rfl (.int .i64 0) rfl rfl (fun _ => by simp [go_sem]) (fun _ => by go_simp; try (first | rfl | (simp [*]))) ?_; try walk_nrm
  refine valE O rfl (.int .u64 0) rfl rfl (fun _ => by simp [go_sem]) (fun _ => by go_simp; try (first | rfl | (simp [*]))) ?_; try walk_nrm
  refine valE O rfl (.bool false) rfl rfl (fun _ => by simp [go_sem]) (fun _ => by go_simp; try (first | rfl | (simp [*]))) ?_; try walk_nrm
  refine valE O rfl (.int .i64 0) rfl rfl (fun _ => by simp [go_sem]) (fun _ => by go_simp; try (first | rfl | (simp [*]))) ?_; try walk_nrm
  refine cpsR_nil O ?_
  show cps _ _ _ _ _ _
  repeat refine cps_seq O ?_
  (refine cps_region O ?_; simp only [List.size_toArray, List.length_cons, List.length_nil, Nat.reduceAdd, Nat.zero_add, List.range, List.range.loop])
  refine valE O rfl (.int .i64 0) rfl rfl (fun _ => by simp [go_sem]) (fun _ => by go_simp; try (first | rfl | (simp [*]))) ?_; try walk_nrm
  refine valE O rfl (.bool true) rfl rfl (fun _ => by simp [go_sem]) (fun _ => by go_simp; try (first | rfl | (simp [*]))) ?_; try walk_nrm
  refine valE O rfl (.bool true) rfl rfl (fun _ => by simp [go_sem]) (fun _ => by go_simp; try (first | rfl | (simp [*]))) ?_; try walk_nrm
  refine valE O rfl (.int .i64 0) rfl rfl (fun _ => by simp [go_sem]) (fun _ => by go_simp; try (first | rfl | (simp [*]))) ?_; try walk_nrm
  refine valE O rfl (.bool true) rfl rfl (fun _ => by simp [go_sem]) (fun _ => by go_simp; try (first | rfl | (simp [*]))) ?_; try walk_nrm
  refine valE O rfl (.bool true) rfl rfl (fun _ => by simp [go_sem]) (fun _ => by go_simp; try (first | rfl | (simp [*]))) ?_; try walk_nrm
  refine valE O rfl (.bool true) rfl rfl (fun _ => by simp [go_sem]) (fun _ => by go_simp; try (first | rfl | (simp [*]))) ?_; try walk_nrm
  refine valE O rfl (.bool true) rfl rfl (fun _ => by simp [go_sem]) (fun _ => by go_simp; try (first | rfl | (simp [*]))) ?_; try walk_nrm
  refine valE O rfl (.bool true) rfl rfl (fun _ => by simp [go_sem]) (fun _ => by go_simp; try (first | rfl | (simp [*]))) ?_; try walk_nrm
  refine valE O rfl (.bool true) rfl rfl (fun _ => by simp [go_sem]) (fun _ => by go_simp; try (first | rfl | (simp [*]))) ?_; try walk_nrm
  refine valE O rfl (.int .u64 a) rfl rfl (fun _ => by simp [go_sem]) (fun _ => by go_simp; try (first | rfl | (simp [*]))) ?_; try walk_nrm
  refine valE O rfl (.int .u64 a) rfl rfl (fun _ => by simp [go_sem]) (fun _ => by go_simp; try (first | rfl | (simp [*]))) ?_; try walk_nrm
  refine valE O rfl (.bool true) rfl rfl (fun _ => by simp [go_sem]) (fun _ => by go_simp; try (first | rfl | (simp [*]))) ?_; try walk_nrm
  refine valE O rfl (.bool true) rfl rfl (fun _ => by simp [go_sem]) (fun _ => by go_simp; try (first | rfl | (simp [*]))) ?_; try walk_nrm
  refine valE O rfl (.bool true) rfl rfl (fun _ => by simp [go_sem]) (fun _ => by go_simp; try (first | rfl | (simp [*]))) ?_; try walk_nrm
  refine valE O rfl (.bool false) rfl rfl (fun _ => by simp [go_sem]) (fun _ => by go_simp; try (first | rfl | (simp [*]))) ?_; try walk_nrm
  refine valE O rfl (.bool true) rfl rfl (fun _ => by simp [go_sem]) (fun _ => by go_simp; try (first | rfl | (simp [*]))) ?_; try walk_nrm
  refine valE O rfl (.bool true) rfl rfl (fun _ => by simp [go_sem]) (fun _ => by go_simp; try (first | rfl | (simp [*]))) ?_; try walk_nrm
  refine valE O rfl (.bool true) rfl rfl (fun _ => by simp [go_sem]) (fun _ => by go_simp; try (first | rfl | (simp [*]))) ?_; try walk_nrm
  refine valE O rfl (.int .u64 0) rfl rfl (fun _ => by simp [go_sem]) (fun _ => by go_simp; try (first | rfl | (simp [*]))) ?_; try walk_nrm
  refine valE O rfl (.bool true) rfl rfl (fun _ => by simp [go_sem]) (fun _ => by go_simp; try (first | rfl | (simp [*]))) ?_; try walk_nrm
  refine valE O rfl (.bool true) rfl rfl (fun _ => by simp [go_sem]) (fun _ => by go_simp; try (first | rfl | (simp [*]))) ?_; try walk_nrm
  refine valE O rfl (.bool true) rfl rfl (fun _ => by simp [go_sem]) (fun _ => by go_simp; try (first | rfl | (simp [*]))) ?_; try walk_nrm
  refine cpsR_nil O ?_
  exact cps_ret O (hQ _ _ _ _ (Hf.out _ _ rfl h))
end
end Go.Proofs.Ytmcffabfghhpaaa
/- From a walk of a law, alone, to its row: the law's row says 'leaving', and a call that starts no goroutine leaves none. -/
namespace Go.Proofs.Ytmcffabfghhpaaa
open Go.ChangeShapes Go.WideShapes Go.ChangeAt Go.RowKit Go.Deep
set_option linter.unusedVariables false

section
variable {H : Type} {enc : TypeId × Value → H}

/-- Each argument reads as it did, where nothing that was there has turned. -/
theorem trodAll_below {P : Program} (hl : laidOutB P = true) {W W' : World} (hb : Below W.heap.size W W') : ∀ (ts : List TypeId) (vs : List Value) (ds : List (DataW H)) (ps : List MemPlace),
    (∀ t ∈ ts, P.readableRec t = true ∧ t < P.types.size) → DataW.TrodAll enc P W 0 (fun _ => true) true ts vs ds ps → (∀ x ∈ ps, x.block < W.heap.size) →
    DataW.TrodAll enc P W' 0 (fun b => decide (b < W.heap.size)) true ts vs ds ps := by
  intro ts
  induction ts with
  | nil =>
    intro vs ds ps _ h _
    obtain ⟨rfl, rfl, rfl⟩ := trodAll_nil h
    exact trodAll_mk0
  | cons t ts ih =>
    intro vs ds ps ht h hlt
    obtain ⟨v, vs', d, ds', p, q, rfl, rfl, rfl, h1, h2⟩ := trodAll_cons h
    obtain ⟨r1, r2⟩ := ht t (by simp)
    exact trodAll_cons_mk (Below.trod hl r1 r2 h1 hb (fun x hx => hlt x (by simp [hx]))) (ih vs' ds' q (fun t' ht' => ht t' (by simp [ht'])) h2 (fun x hx => hlt x (by simp [hx])))

/-- What a law's row asks behind the call: true; the arguments as they were. -/
theorem law_post {P : Program} {f : Func} {s : ChangeSpec} (hl : laidOutB P = true) (hts : ∀ t ∈ f.params.toList, P.readableRec t = true ∧ t < P.types.size) (hv : s.vars = []) {tb : TypeId} (hres : f.resultTypes = #[tb]) (hbool : P.underlying tb = some .bool)
    {W W' : World} {args : Array Value} {ds gs : List (DataW H)} {before : List MemPlace} (hW : DataW.Whole enc P f.params.toList s.vars false W args.toList ds gs before)
    (hspec : s.fn H (ds ++ []) = { results := [.lit (.bool true)], args := ds }) (hb : Below W.heap.size W W') : s.post enc P f false true false false W args (.bool true) W' := by
  have hlt : ∀ p ∈ before, p.block < W.heap.size := fun p hp => hW.lt p hp
  have hW2 := hW
  obtain ⟨p, q, hA, hV, rfl, hfz, hnd⟩ := hW2
  rw [hv] at hV
  obtain ⟨rfl, rfl⟩ := trodVars_none hV
  refine ⟨ds, [], p ++ [], [], p, [], hW, ?_, ?_, ?_, hb.frame _, fun h => by cases h⟩
  · rw [hspec, hres]
    exact trodAll_mk1 (shut_bool hbool true)
  · rw [hspec]
    exact trodAll_below hl hb _ _ _ _ hts hA (fun x hx => hlt x (by simp [hx]))
  · rw [hspec, hv]
    rfl
end

theorem plain_at {w : World} {a : Addr} {i : Nat} {v : Value} (h0 : ∃ u, w.cell? (a.add 0) = some u) (h : w.cell? (a.add i) = some v) : ∃ b off, a = ⟨b, off, none⟩ ∧ b < w.heap.size ∧ w.cell? ⟨b, off + i, none⟩ = some v := by
  obtain ⟨u, hu⟩ := h0
  have e0 : a.add 0 = a := by simp [Addr.add]
  rw [e0] at hu
  obtain ⟨b, off, sp⟩ := a
  have hsp : sp = none := by
    unfold World.cell? at hu
    split at hu
    · split at hu
      · cases hu
      · rename_i hs
        simpa using hs
    · cases hu
  subst hsp
  have hb : b < w.heap.size := by
    unfold World.cell? at hu
    split at hu
    · rename_i hh
      exact (Array.getElem?_eq_some_iff.1 hh).1
    · cases hu
  refine ⟨b, off, rfl, hb, ?_⟩
  have : (⟨b, off, none⟩ : Addr).add i = ⟨b, off + i, none⟩ := by
    unfold Addr.add
    split <;> simp_all
  rw [← this]
  exact h

section
variable {H : Type} {enc : TypeId × Value → H}

theorem open_bools_arg {P : Program} {t e : TypeId} (ht : P.underlying t = some (.slice e)) (he : P.underlying e = some .bool) (hc : P.cellsOf e = 1) {W : World} {b0 : Nat} {v : Value} {d : DataW H} {p : List MemPlace}
    (hok : Value.okWide P W .any b0 t v) (h : DataW.Trod enc P W 0 (fun _ => true) true t v d p) :
    ∃ a len cap, ∃ bs : Nat → Bool, v = .slice a len cap ∧ len ≤ 9223372036854775807 ∧ ∀ j, j < len → ∃ b off, a = some ⟨b, off, none⟩ ∧ b < W.heap.size ∧ W.cell? ⟨b, off + j, none⟩ = some (.bool (bs j)) := by
  obtain ⟨a0, len, cap, rfl⟩ := okWide_slice ht hok
  obtain ⟨fuel, hf⟩ := h
  rcases open_bools ht he hc hf with ⟨hcs, hx⟩ | ⟨a, len', cap', B, hcs, _, hl, hm, hx, hcell⟩
  · simp [Value.cells] at hcs
    obtain ⟨rfl, rfl, rfl⟩ := hcs
    exact ⟨none, 0, 0, fun _ => false, rfl, by omega, fun j h => absurd h (by omega)⟩
  · simp [Value.cells] at hcs
    obtain ⟨rfl, rfl, rfl⟩ := hcs
    refine ⟨some a, len, cap, B, rfl, by unfold maxLen at hm; omega, fun j hj => ?_⟩
    obtain ⟨b, off, rfl, h1, h2⟩ := plain_at ⟨_, hcell 0 (by omega)⟩ (hcell j (by omega))
    exact ⟨b, off, rfl, h1, h2⟩

theorem open_u64s_arg {P : Program} {t e : TypeId} (ht : P.underlying t = some (.slice e)) (he : P.underlying e = some (.int .u64)) (hc : P.cellsOf e = 1) {W : World} {b0 : Nat} {v : Value} {d : DataW H} {p : List MemPlace}
    (hok : Value.okWide P W .any b0 t v) (h : DataW.Trod enc P W 0 (fun _ => true) true t v d p) :
    ∃ a len cap, ∃ ns : Nat → Nat, v = .slice a len cap ∧ len ≤ 9223372036854775807 ∧ (∀ j, j < len → ns j < 18446744073709551616) ∧ ∀ j, j < len → ∃ b off, a = some ⟨b, off, none⟩ ∧ b < W.heap.size ∧ W.cell? ⟨b, off + j, none⟩ = some (.int .u64 (ns j : Int)) := by
  obtain ⟨a0, len, cap, rfl⟩ := okWide_slice ht hok
  obtain ⟨fuel, hf⟩ := h
  rcases open_ints ht he hc hf with ⟨hcs, hx⟩ | ⟨a, len', cap', zs, hcs, _, hl, hm, hz, hx, hcell, hwz⟩
  · simp [Value.cells] at hcs
    obtain ⟨rfl, rfl, rfl⟩ := hcs
    exact ⟨none, 0, 0, fun _ => 0, rfl, by omega, fun j h => absurd h (by omega), fun j h => absurd h (by omega)⟩
  · simp [Value.cells] at hcs
    obtain ⟨rfl, rfl, rfl⟩ := hcs
    simp only [if_true] at hz
    have hbd : ∀ j, j < zs.length → 0 ≤ zs.getD j 0 ∧ zs.getD j 0 < 18446744073709551616 := by
      intro j hj
      have := hwz _ (List.getElem_mem hj)
      have e : zs.getD j 0 = zs[j] := by simp [List.getD, hj]
      rw [e]
      simp [Lit.wf, IntKind.min, IntKind.max, IntKind.signed, IntKind.bits] at this
      omega
    refine ⟨some a, len, cap, fun j => (zs.getD j 0).toNat, rfl, by unfold maxLen at hm; omega, fun j hj => by have := hbd j (by omega); show (zs.getD j 0).toNat < _; omega, fun j hj => ?_⟩
    obtain ⟨b, off, rfl, h1, h2⟩ := plain_at ⟨_, hcell 0 (by omega)⟩ (hcell j (by omega))
    refine ⟨b, off, rfl, h1, ?_⟩
    have := hbd j (by omega)
    rw [h2, Int.toNat_of_nonneg this.1]
end

/-- A call that starts no goroutine leaves none behind. -/
theorem leaving_of_handed {a : Assume} {C : Checked} {os : Os} {f : FuncId} {r : Reach} {Pre : World → Array Value → Prop} {Post : World → Array Value → Value → World → Prop}
    (h : ReturnsInHanded a C os f r Pre Post) : ReturnsInLeavingWide a C os f r Pre Post := fun enter =>
  ReturnsInOpen.mono (fun m w t ⟨⟨hq, ht⟩, hh, he⟩ => ⟨hh, ⟨fun g hg => ⟨0, by
    unfold Machine.othersDone at hq
    rw [List.all_eq_true] at hq
    have := hq g hg
    simpa [Goroutine.LeavesIn] using this⟩, ht⟩, he⟩) (fun _ x => x) (h enter)

theorem laid_out : laidOutB Try.prog = true := by kernel_rfl
theorem readable_of (ts : List TypeId) (h : (ts.all fun t => Try.prog.readableRec t && decide (t < Try.prog.types.size)) = true) : ∀ t ∈ ts, Try.prog.readableRec t = true ∧ t < Try.prog.types.size := by
  intro t ht
  rw [List.all_eq_true] at h
  have := h t ht
  simpa using this
theorem own_knob : ownKnob Try.prog.godebug = none := by kernel_rfl
end Go.Proofs.Ytmcffabfghhpaaa
/- Plain words: from a law's good run to what its row asks. No condition. -/
namespace Go.Proofs.Ytmcffabfghhpaaa
open Go.Conc Go.RowKit Go.ChangeShapes Go.WideShapes Go.ChangeAt Go.Deep
section
variable {H : Type} {enc : TypeId × Value → H}
theorem law_post_gr {P : Program} {f : Func} {s : ChangeSpec} (hl : laidOutB P = true) (hts : ∀ t ∈ f.params.toList, P.readableRec t = true ∧ t < P.types.size) (hv : s.vars = []) {tb : TypeId} (hres : f.resultTypes = #[tb]) (hbool : P.underlying tb = some .bool)
    {W W' : World} {args : Array Value} {ds gs : List (DataW H)} {before : List MemPlace} (hW : DataW.Whole enc P f.params.toList s.vars false W args.toList ds gs before)
    (hspec : s.fn H (ds ++ []) = { results := [.lit (.bool true)], args := ds }) (hg : Gr W W') : s.post enc P f false true false false W args (.bool true) W' := by
  have hb : Below W.heap.size W { W' with tape := W.tape } := ⟨hg.os, rfl, hg.out, hg.size, hg.block⟩
  have hlt : ∀ p ∈ before, p.block < W.heap.size := fun p hp => hW.lt p hp
  have hW2 := hW
  obtain ⟨p, q, hA, hV, rfl, hfz, hnd⟩ := hW2
  rw [hv] at hV
  obtain ⟨rfl, rfl⟩ := trodVars_none hV
  refine ⟨ds, [], p ++ [], [], p, [], hW, ?_, ?_, ?_, ?_, fun h => by cases h⟩
  · rw [hspec, hres]
    exact trodAll_mk1 (shut_bool hbool true)
  · rw [hspec]
    exact DataW.TrodAll.of_heap (w := { W' with tape := W.tape }) (w' := W') rfl (trodAll_below hl hb _ _ _ _ hts hA (fun x hx => hlt x (by simp [hx])))
  · rw [hspec, hv]
    rfl
  · have hk := hb.frame fun p_1 => p_1 ∈ p ++ [] ∧ (p_1 ∈ [] ∨ p_1 ∈ p ∨ p_1 ∈ [])
    unfold World.keptBut at hk ⊢
    exact hk
end
end Go.Proofs.Ytmcffabfghhpaaa
