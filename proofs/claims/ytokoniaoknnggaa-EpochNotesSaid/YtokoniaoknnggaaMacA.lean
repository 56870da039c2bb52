/- The reference machine: its leaves. -/
import Derived.Test.YtokoniaoknnggaaEpoA
import Derived.Deep.MidRow
import Derived.Deep.RegionHeld3
namespace Go.Proofs.Ytokoniaoknnggaa
open Go.RowKit
set_option linter.unusedVariables false
set_option linter.unusedSimpArgs false

theorem told_c (d : Nat) (hd : d < 1000) (w : World) : Calls Try.prog 81 #[.int .i64 (d : Int)] w fun e w' => e = .returned (.bool (decide (1 ≤ d ∧ d ≤ 5))) ∧ w = w' := by
  by_cases h1 : 1 ≤ d
  · by_cases h2 : d ≤ 5
    · have j1 : (1 : Int) ≤ (d : Int) := by omega
      have j2 : (d : Int) ≤ 5 := by omega
      have hr : decide (1 ≤ d ∧ d ≤ 5) = true := by simp [h1, h2]
      rw [hr]
      go_enter Try.func81, Try.ntmps81
      go_wp2
      go_ret
      exact ⟨rfl, rfl⟩
    · have j1 : (1 : Int) ≤ (d : Int) := by omega
      have j2 : ¬ (d : Int) ≤ 5 := by omega
      have hr : decide (1 ≤ d ∧ d ≤ 5) = false := by simp; omega
      rw [hr]
      go_enter Try.func81, Try.ntmps81
      go_wp2
      go_ret
      exact ⟨rfl, rfl⟩
  · have j1 : ¬ (1 : Int) ≤ (d : Int) := by omega
    have hr : decide (1 ≤ d ∧ d ≤ 5) = false := by simp; omega
    rw [hr]
    go_enter Try.func81, Try.ntmps81
    go_wp2
    go_ret
    exact ⟨rfl, rfl⟩
theorem kind_c (d : Nat) (h1 : 1 ≤ d) (h2 : d ≤ 5) (w : World) : Calls Try.prog 83 #[.int .i64 (d : Int)] w fun e w' => e = .returned (.int .u8 (d : Int)) ∧ w = w' := by
  have hd : d = 1 ∨ d = 2 ∨ d = 3 ∨ d = 4 ∨ d = 5 := by omega
  rcases hd with rfl | rfl | rfl | rfl | rfl
  all_goals
    go_enter Try.func83, Try.ntmps83
    go_wp2
    go_ret
    exact ⟨rfl, rfl⟩
/-- A slice of rows of sz cells each, in memory. -/
def Recs (sz : Nat) (v : Value) (rows : List (List Value)) (w : World) : Prop :=
  ∃ a c, v = .slice a rows.length c ∧ rows.length ≤ c ∧ (0 < rows.length → ∃ b o, a = some ⟨b, o, none⟩ ∧ b < w.heap.size ∧ ∀ j (h : j < rows.length), w.rangeAt b (o + j * sz) rows[j])
theorem Recs.sm {sz : Nat} {v : Value} {rows : List (List Value)} {w w' : World} {F : Nat → Prop} (h : Recs sz v rows w) (k : Sm F w w') (hF : ∀ b, b < w.heap.size → ¬ F b) : Recs sz v rows w' := by
  obtain ⟨a, c, hv, hc, h⟩ := h
  refine ⟨a, c, hv, hc, fun h0 => ?_⟩
  obtain ⟨b, o, ha, hb, hr⟩ := h h0
  exact ⟨b, o, ha, Nat.lt_of_lt_of_le hb k.size, fun j hj i u hu => (k.cell (p := ⟨b, o + j * sz + i, none⟩) hb (hF b hb)).trans (hr j hj i u hu)⟩

theorem Row.setRow {w : World} {b : Nat} {c c' : Array Value} {T : TypeId} (h : Row w b c T) : Row (w.setRow b c') b c' T := setRow_heap w b c c' T (0, 0) h
/-- An instruction: Do, On, A, B, C, D, N. -/
structure In where
  d : Nat
  o : Nat
  a : Nat
  b : Nat
  c : Nat
  e : Nat
  n : Nat
def instrC (x : In) : List Value := [.int .i64 x.d, .int .i64 x.o, .int .i64 x.a, .int .i64 x.b, .int .i64 x.c, .int .i64 x.e, .int .u64 x.n]
def finishI : In := ⟨23, 0, 0, 0, 0, 0, 0⟩
/-- A thread's cells. -/
def thrC (vc : Value) (call at_ : Nat) (r : List Nat) (va : Value) (over : Bool) : Array Value :=
  (vc :: Value.int .i64 (call : Int) :: Value.int .i64 (at_ : Int) :: ((r.map fun (x : Nat) => Value.int .u64 (x : Int)) ++ [va, Value.bool over])).toArray
theorem instrC_one (x : In) : (instrC x).toArray.all (·.oneCell') = true := by simp [instrC, Value.oneCell']
theorem instrC_size (x : In) : (Try.prog.info? 161).map (·.size) = some (instrC x).toArray.size := by
  show _ = some 7
  kernel_rfl
def zeroI : Array Value := #[.int .i64 0, .int .i64 0, .int .i64 0, .int .i64 0, .int .i64 0, .int .i64 0, .int .u64 0]
set_option maxRecDepth 20000 in
set_option maxHeartbeats 800000 in
theorem next_c (T : Nat) (vc : Value) (call at_ : Nat) (r : List Nat) (va : Value) (over : Bool) (rows : List (List Value)) (cd dt : Value) (is : List In) (w : World) (hT : Row w T (thrC vc call at_ r va over) 143)
    (hcs : Recs 2 vc rows w) (hcl : call < rows.length) (hrow : rows[call] = [cd, dt]) (hcd : Recs 7 cd (is.map instrC) w) (hbd : is.length < 1000000 ∧ rows.length < 1000000 ∧ at_ < 1000000) :
    Calls Try.prog 80 #[.pointer (some ⟨T, 0, none⟩)] w fun e w' => e = .returned (.agg (instrC (is[at_]?.getD finishI)).toArray) ∧ Sm (fun _ => False) w w' := by
  obtain ⟨a1, c1, rfl, -, h1⟩ := hcs
  obtain ⟨b1, o1, rfl, hb1, h1⟩ := h1 (by omega)
  have hr := h1 call hcl
  rw [hrow] at hr
  have k0 := hr 0 cd rfl
  rw [Nat.add_zero] at k0
  obtain ⟨a2, c2, rfl, -, h2⟩ := hcd
  have t0 : w.cell? ⟨T, 0, none⟩ = some (.slice (some ⟨b1, o1, none⟩) rows.length c1) := hT.cell 0
  have t1 : w.cell? ⟨T, 1, none⟩ = some (.int .i64 (call : Int)) := hT.cell 1
  have t2 : w.cell? ⟨T, 2, none⟩ = some (.int .i64 (at_ : Int)) := hT.cell 2
  have hTl := hT.lt
  have h3 : ∀ j (hj : j < is.length), ∃ g o, a2 = some ⟨g, o, none⟩ ∧ w.rangeAt g (o + j * 7) (instrC is[j]) := fun j hj => by
    obtain ⟨g, o, e1, -, e2⟩ := h2 (by rw [List.length_map]; omega)
    have := e2 j (by rw [List.length_map]; exact hj)
    rw [List.getElem_map] at this
    exact ⟨g, o, e1, this⟩
  rw [List.length_map] at k0
  obtain ⟨n, hn⟩ : ∃ n, n = is.length := ⟨_, rfl⟩
  rw [← hn] at k0
  obtain ⟨m, hm⟩ : ∃ m, m = rows.length := ⟨_, rfl⟩
  rw [← hm] at t0 hcl
  have HN := Lib.hid hn
  have HH3 := Lib.hid h3
  have j1 : (call : Int) < (m : Int) := by omega
  have j2 : decide ((at_ : Int) < 0) = false := by simp
  clear hm hn h1 hr hrow h2 h3 hT
  go_enter Try.func80, Try.ntmps80
  go_wp2_with fail
  try simp only [Act.put]
  refine wp_region_quiet_lit (by kernel_rfl) (by kernel_rfl) ?_
  repeat (first
    | go_big_quiet_skip
    | (go_big_quiet_want; go_big_quiet_op; go_big_quiet_on))
  refine wpQuiet_nil ?_
  intro _ hw'
  obtain ⟨nq, hw''⟩ := hw'
  subst hw''
  by_cases hat : at_ < n
  · have j3 : ¬ (n : Int) ≤ (at_ : Int) := by omega
    have j4 : decide (n ≤ at_) = false := by simp; omega
    have j5 : (at_ : Int) < (n : Int) := by omega
    obtain ⟨g, o, rfl, hrow⟩ := HH3.out at_ (by rw [← HN.out]; exact hat)
    obtain ⟨x, hx⟩ : ∃ x, x = is[at_]'(by rw [← HN.out]; exact hat) := ⟨_, rfl⟩
    rw [← hx] at hrow
    have hg : is[at_]?.getD finishI = x := by rw [hx]; simp [show at_ < is.length by rw [← HN.out]; exact hat]
    have HG := Lib.hid hg
    have HROW := Lib.hid (show ((w.alloc (.cells #[.int .i64 0, .int .i64 0, .int .i64 0, .int .i64 0, .int .i64 0, .int .i64 0, .int .u64 0] 161 (0, 0))).drewN nq).rangeAt g (o + at_ * 7) (instrC x) from fun i u hu => by
      have hc := hrow i u hu
      exact (((Sm.refl (fun _ => False) w).alloc _).drewN nq).cell (p := ⟨g, o + at_ * 7 + i, none⟩) (World.block_lt_of_cell? w _ hc) (fun h => h) |>.trans hc)
    have hz : Row ((w.alloc (.cells zeroI 161 (0, 0))).drewN nq) w.heap.size zeroI 161 := (Row.new w _ _).drewN nq
    have HEND := Lib.hid (show Row (((w.alloc (.cells zeroI 161 (0, 0))).drewN nq).setRow w.heap.size (instrC x).toArray) w.heap.size (instrC x).toArray 161 ∧ Sm (fun _ => False) w (((w.alloc (.cells zeroI 161 (0, 0))).drewN nq).setRow w.heap.size (instrC x).toArray) from
      ⟨hz.setRow, ⟨rfl, rfl, rfl, by simp [World.setRow], fun k hk _ => (setRow_other _ _ k _ (by omega)).trans (Below.heap_alloc _ _ _ hk)⟩⟩)
    clear hg hx hrow
    go_wp2_with (first
      | refine wpList_load_mid rfl 161 (.tmp 35) rfl g (o + at_ * 7) (by simp [Act.eval, Act.put]) (instrC x) _ HROW.out Try.underlying161 rfl (by kernel_rfl) ?_
      | refine wpList_store_row rfl 161 (.tmp 2) (.tmp 36) rfl w.heap.size (instrC x).toArray (by simp [Act.eval, Act.put]) (by simp [Act.eval, Act.put]) 161 _ hz (instrC_size x) (by rfl) (instrC_one x) ?_)
    refine bodyPost_ret (results_cell_row rfl _ _ w.heap.size 161 (instrC x).toArray (0, 0) _ rfl HEND.out.1 Try.underlying161 rfl (instrC_size x)) rfl ?_
    rw [HG.out]
    exact ⟨rfl, HEND.out.2⟩
  · have j3 : (n : Int) ≤ (at_ : Int) := by omega
    have j4 : decide (n ≤ at_) = true := by simp; omega
    have hg : is[at_]?.getD finishI = finishI := by have := HN.out; simp [List.getElem?_eq_none (show is.length ≤ at_ by omega)]
    have HG := Lib.hid hg
    clear hg
    have hz : Row ((w.alloc (.cells zeroI 161 (0, 0))).drewN nq) w.heap.size zeroI 161 := (Row.new w _ _).drewN nq
    have HEND := Lib.hid (show Row (((w.alloc (.cells zeroI 161 (0, 0))).drewN nq).setRow w.heap.size (instrC finishI).toArray) w.heap.size (instrC finishI).toArray 161 ∧ Sm (fun _ => False) w (((w.alloc (.cells zeroI 161 (0, 0))).drewN nq).setRow w.heap.size (instrC finishI).toArray) from
      ⟨hz.setRow, ⟨rfl, rfl, rfl, by simp [World.setRow], fun k hk _ => (setRow_other _ _ k _ (by omega)).trans (Below.heap_alloc _ _ _ hk)⟩⟩)
    go_wp2_with (refine wpList_store_row rfl 161 (.tmp 2) (.tmp 29) rfl w.heap.size (instrC finishI).toArray (by simp [Act.eval, Act.put]) (by simp [Act.eval, Act.put]; rfl) 161 _ hz (instrC_size finishI) (by rfl) (instrC_one finishI) ?_)
    refine bodyPost_ret (results_cell_row rfl _ _ w.heap.size 161 (instrC finishI).toArray (0, 0) _ rfl HEND.out.1 Try.underlying161 rfl (instrC_size finishI)) rfl ?_
    rw [HG.out]
    exact ⟨rfl, HEND.out.2⟩
end Go.Proofs.Ytokoniaoknnggaa
