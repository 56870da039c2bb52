/- flow.Hash, flow.Lane; lane.New, (*Lanes).Stamp, walked alone. -/
import Derived.Test.YthjdnhlckjchgaaLanD
import Derived.Deep.RegionHeld
namespace Go.Proofs.Ythjdnhlckjchgaa
open Go.RowKit
set_option linter.unusedVariables false
set_option linter.unusedSimpArgs false

theorem wpList_load_key {ops : Array Oper} {rest : List Oper} {o : Oper} {a : Act} {w : World} {Q : Exit → Act → World → Prop} (hgd : o.guard = none) (x : Operand) (ho : o.op = .load 63 x)
    (b T : Nat) (hx : a.eval x = .pointer (some ⟨b, 0, none⟩)) (m : Array Value) (hlen : m.size = 37) (hr : Row w b m T) (h : wpList Try.prog ops Q rest (a.put o.dst (.agg m)) w) : wpList Try.prog ops Q (o :: rest) a w :=
  wpList_load_row hgd 63 x ho b hx T m (0, 0) _ hr Try.underlying63 rfl (by rw [hlen]; kernel_rfl) h

theorem fhash_c (k : KeyV) (hk : k.Ok) (w : World) :
    Calls Try.prog 50 #[.agg (keyC k).toArray] w fun e w' => e = .returned (.int .u64 (hlist (keyB k))) ∧ Sm (fun _ => False) w w' := by
  have hr := Row.new w (keyC k).toArray 63
  have hS := (Sm.refl (fun _ => False) w).alloc (.cells (keyC k).toArray 63)
  obtain ⟨w1, hw1⟩ : ∃ w1, w1 = w.alloc (.cells (keyC k).toArray 63) := ⟨_, rfl⟩
  rw [← hw1] at hr hS
  have hlen : (keyC k).toArray.size = 37 := by simpa using keyC_len k hk
  have hlb : (keyB k).length ≤ 1000 := by simp [keyB, addrB, hk.sl, hk.dl]
  have hxb : ∀ x ∈ keyB k, x < 256 := by
    intro x hx
    have h1 := hk.spx
    have h2 := hk.dpx
    have h3 := hk.px
    have h4 := hk.sx
    have h5 := hk.dx
    have h6 : (if k.s6 then 1 else 0) < 256 := by split <;> omega
    have h7 : (if k.d6 then 1 else 0) < 256 := by split <;> omega
    simp only [keyB, addrB, List.mem_append, List.mem_cons, List.not_mem_nil, or_false] at hx
    rcases hx with ((rfl | hx) | (rfl | hx)) | (rfl | rfl | rfl | rfl | rfl)
    · exact h6
    · exact h4 x hx
    · exact h7
    · exact h5 x hx
    all_goals omega
  have HW1 := Lib.hid hw1
  have HB := Lib.hid (bytes_c k hk w1)
  have HS := Lib.hid hS
  have HX := Lib.hid hxb
  clear hw1 hS hxb
  obtain ⟨H, hH⟩ : ∃ H, H = hlist (keyB k) := ⟨_, rfl⟩
  rw [← hH]
  obtain ⟨B, hB⟩ : ∃ B, B = keyB k := ⟨_, rfl⟩
  rw [← hB] at hH hlb HX HB
  have HH := Lib.hid hH
  obtain ⟨A, hA⟩ : ∃ A, A = (keyC k).toArray := ⟨_, rfl⟩
  rw [← hA] at hr hlen HW1 HB
  rw [← hA]
  clear hB hH hA
  go_enter Try.func50, Try.ntmps50
  go_wp2_with (refine wpList_load_key rfl (.tmp 1) rfl w.heap.size _ (by simp [Act.eval]) A hlen (by rw [← HW1.out]; exact hr) ?_; rw [← HW1.out])
  refine HB.out.mono ?_
  rintro e w2 ⟨v, rfl, h2, h3⟩
  have h4 := (Row.new w2 #[v] 177).cell 0
  have h5 := ohash_c w2.heap.size v B hlb HX.out (w2.alloc (.cells #[v] 177)) (by simp [h4]) ((own_zero h2).alloc _)
  rw [← HH.out] at h5
  have H3 := Lib.hid h3
  obtain ⟨a3, c3, hv3⟩ := own_form0 h2
  subst hv3
  clear h2 h3 h4
  go_wp2_with fail
  refine h5.mono ?_
  rintro e w3 ⟨rfl, rfl⟩
  go_wp2
  go_ret
  exact ⟨rfl, (HS.out.trans H3.out).alloc _⟩

/-- A key's lane among n. -/
def laneOf (k : KeyV) (n : Nat) : Nat := (hlist (keyB k)).toNat % n
set_option maxRecDepth 100000 in
theorem flane_c (k : KeyV) (hk : k.Ok) (n : Nat) (h0 : 0 < n) (hn : n ≤ 16) (w : World) :
    Calls Try.prog 33 #[.agg (keyC k).toArray, .int .i64 n] w fun e w' => e = .returned (.tuple #[.int .i64 (laneOf k n : Nat), .int .i64 0]) ∧ Sm (fun _ => False) w w' := by
  have hr := Row.new w (keyC k).toArray 63
  have hS := (Sm.refl (fun _ => False) w).alloc (.cells (keyC k).toArray 63)
  obtain ⟨w1, hw1⟩ : ∃ w1, w1 = w.alloc (.cells (keyC k).toArray 63) := ⟨_, rfl⟩
  rw [← hw1] at hr hS
  have hlen : (keyC k).toArray.size = 37 := by simpa using keyC_len k hk
  have HW1 := Lib.hid hw1
  have HB := Lib.hid (fhash_c k hk w1)
  have HS := Lib.hid hS
  have hrg := hlist_range (keyB k)
  obtain ⟨L, hL⟩ : ∃ L, L = laneOf k n := ⟨_, rfl⟩
  have hL2 : L < n := by rw [hL]; exact Nat.mod_lt _ h0
  have hm : (hlist (keyB k)) % (n : Int) = (L : Int) := by
    rw [hL, laneOf, Int.natCast_emod, Int.toNat_of_nonneg hrg.1]
  have hm2 : (hlist (keyB k)).tmod (n : Int) = (L : Int) := by rw [Int.tmod_eq_emod_of_nonneg hrg.1]; exact hm
  rw [← hL]
  clear hL hw1 hS
  obtain ⟨A, hA⟩ : ∃ A, A = (keyC k).toArray := ⟨_, rfl⟩
  rw [← hA] at hr hlen HW1 HB
  rw [← hA]
  obtain ⟨H, hH⟩ : ∃ H, H = hlist (keyB k) := ⟨_, rfl⟩
  rw [← hH] at HB hrg hm hm2
  have j1 : ¬ (n : Int) < 1 := by omega
  have j2 : ¬ (16 : Int) < (n : Int) := by omega
  have j3 : ((n : Int) == 0) = false := by rw [beq_eq_false_iff_ne]; omega
  have j4 : ¬ (n : Int) = 0 := by omega
  have hw1 : IntKind.u64.wrap (n : Int) = n := by rw [IntKind.wrap_u64]; omega
  have hw2 : IntKind.u64.wrap (L : Int) = L := by rw [IntKind.wrap_u64]; omega
  have hw3 : wrap64 (L : Int) = L := by unfold wrap64; omega
  clear hA hH
  go_enter Try.func33, Try.ntmps33
  go_wp2_with (refine wpList_load_key rfl (.tmp 2) rfl w.heap.size _ (by simp [Act.eval]) A hlen (by rw [← HW1.out]; exact hr) ?_; rw [← HW1.out])
  refine HB.out.mono ?_
  rintro e w2 ⟨rfl, h3⟩
  have H3 := Lib.hid h3
  clear h3
  go_wp2
  go_ret2
  exact ⟨rfl, HS.out.trans H3.out⟩

/-- Lanes in memory: how many stamps of each lane. -/
structure Lns (T A : Nat) (m : List Nat) (w : World) : Prop where
  rT : Row w T #[.slice (some ⟨A, 0, none⟩) m.length m.length] 115
  rA : Row w A (uw m) 133
  ne : T ≠ A
  pos : 0 < m.length
  le : m.length ≤ 16
theorem Lns.sm {F : Nat → Prop} {T A : Nat} {m : List Nat} {w w' : World} (h : Lns T A m w) (k : Sm F w w') (hT : ¬ F T) (hA : ¬ F A) : Lns T A m w' :=
  { h with rT := h.rT.sm k hT, rA := h.rA.sm k hA }

theorem info_au64 : (Try.prog.info? 133).map (fun i => (i.zero, i.size, i.bytes)) = some (some (.agg #[.int .u64 0]), 1, 8) := by kernel_rfl
theorem make_lanes (n : Nat) (hn : n ≤ 64) (w : World) :
    (Instr.makeSlice 113 (.int .i64 n) (.int .i64 n)).run Try.prog w = .ok (.slice (some ⟨w.heap.size, 0, none⟩) n n) (w.alloc (.cells (uw (List.replicate n 0)) 133)) := by
  obtain ⟨i0, hi, hz0, hz1, hz2⟩ := info_parts info_au64
  have h := run_makeSlice (P := Try.prog) w 113 133 i0 _ Try.underlying113 hi hz0 .i64 .i64 n n (by omega) (by omega) (by rw [hz1]; omega) (by rw [hz2]; omega) (by omega)
  rw [hz1] at h
  simp only [Int.toNat_natCast] at h
  have e : madeCells (Value.agg #[Value.int .u64 0]).cells (n * 1) = uw (List.replicate n 0) := by
    have := made_one n (.int .u64 0)
    simp only [Value.cells]
    rw [this]
    simp [uw]
  rw [e] at h
  exact h
theorem make_u64s (n : Nat) (hn : n ≤ 1000000) (w : World) :
    (Instr.makeSlice 42 (.int .i64 n) (.int .i64 n)).run Try.prog w = .ok (.slice (some ⟨w.heap.size, 0, none⟩) n n) (w.alloc (.cells (uw (List.replicate n 0)) 36)) := by
  obtain ⟨i0, hi, hz0, hz1, hz2⟩ := info_parts info_u64
  have h := run_makeSlice (P := Try.prog) w 42 36 i0 _ Try.underlying42 hi hz0 .i64 .i64 n n (by omega) (by omega) (by rw [hz1]; omega) (by rw [hz2]; omega) (by omega)
  rw [hz1] at h
  simp only [Int.toNat_natCast] at h
  have e : madeCells (Value.int .u64 0).cells (n * 1) = uw (List.replicate n 0) := by
    have := made_one n (.int .u64 0)
    simp only [Value.cells]
    rw [this]
    simp [uw]
  rw [e] at h
  exact h

set_option maxRecDepth 100000 in
theorem lnew_ok (n : Nat) (h0 : 0 < n) (hn : n ≤ 16) (w : World) :
    Calls Try.prog 19 #[.int .i64 n] w fun e w' => e = .returned (.tuple #[.pointer (some ⟨w.heap.size + 1, 0, none⟩), .int .i64 0]) ∧ Sm (fun _ => False) w w' ∧ Lns (w.heap.size + 1) w.heap.size (List.replicate n 0) w' := by
  have hm := make_lanes n (by omega) w
  have j1 : ¬ (n : Int) < 1 := by omega
  have j2 : ¬ (16 : Int) < (n : Int) := by omega
  go_enter Try.func19, Try.ntmps19
  go_wp2
  go_ret2
  refine ⟨by simp, ((Sm.refl _ _).alloc _).alloc _, ?_⟩
  refine ⟨?_, (Row.new _ _ _).alloc _, by omega, by simpa using h0, by simpa using hn⟩
  have := Row.new (w.alloc (.cells (uw (List.replicate n 0)) 133)) #[.slice (some ⟨w.heap.size, 0, none⟩) n n] 115
  simpa using this

theorem aadd (a : Addr) (x n s : Nat) (w : World) (h : w.cell? a = some (.int .u64 (x : Int))) (hz : w.frozen? a = false) (hs : (x + n) % 18446744073709551616 = s) :
    Calls Try.prog 37 #[.pointer (some a), .int .u64 (n : Int)] w fun e w' => e = .returned (.int .u64 (s : Int)) ∧ w.setCell a (.int .u64 (s : Int)) = w' := by
  have e : IntKind.u64.wrap ((x : Int) + (n : Int)) = (s : Int) := by rw [IntKind.wrap_u64]; omega
  have hl := run_call_add (P := Try.prog) Try.func52 (by kernel_rfl) (by kernel_rfl) (by kernel_rfl) .u64 (by kernel_rfl) (y := (n : Int)) (s := (s : Int)) h hz (by rw [← e]; rfl)
  clear e hs
  go_enter Try.func37, Try.ntmps37
  go_wp2
  go_ret
  exact ⟨rfl, rfl⟩

theorem run_eql_slice_some_nilX {P : Program} (w : World) {t e : TypeId} (a : Addr) (n c : Nat) (ht : P.underlying t = some (.slice e)) :
    (binOp .eql t (.slice (some a) n c) (.slice none 0 0)).run P w = .ok (.bool false) w := by
  have h : ∀ d : Nat, (Op.equalIn (d + 1) t (.slice (some a) n c) (.slice none 0 0)).run P w = .ok false w := fun d => by
    simp [Op.equalIn, run_underlying ht]
  simp only [binOp]
  simp [Op.equal, Op.maxDepth, h 9999]
section
variable {P : Program} {ops : Array Oper} {Q : Exit → Act → World → Prop} {md : Region.Mode} {S : World → Prop}
/-- 'wpAnyH_take' and 'AllReadyH.cons' with the operation laid out. -/
theorem take_at {i : Nat} {d : Option Tmp} {op : Op} {t : TypeId} {p : String} {af : Array Edge} {g : Option (Nat × Bool)} {v : Value} {fuel : Nat} {listed : Array Bool} {a : Act} {w : World} (hi : ops[i]? = some ⟨d, op, t, p, af, g⟩)
    (hs : Region.noSelect ops = true) (hf : Region.free md ops listed i = true) (hr : (Region.ready md ops listed).contains i = true)
    (hQ : ∀ c a w, Q (.panic c) (a.put d v) w → Q (.panic c) a w) (hy : YieldsIf P ops S ⟨d, op, t, p, af, g⟩ v a) (hS : S w)
    (h : wpAnyH P md ops Q S fuel (listed.setIfInBounds i true) (a.put d v) w) : wpAnyH P md ops Q S (fuel + 1) listed a w := wpAnyH_take hi hs hf hr hQ hy hS h
theorem ready_at {fuel : Nat} {listed : Array Bool} {a : Act} {w : World} {i : Nat} {d : Option Tmp} {op : Op} {t : TypeId} {p : String} {af : Array Edge} {g : Option (Nat × Bool)} (ho : ops[i]? = some ⟨d, op, t, p, af, g⟩)
    (h : ∀ K' : Act → World → Prop, Shut (∀ a w, S w → (S w → wpAnyH P md ops Q S fuel (listed.setIfInBounds i true) a w) → K' a w) → if Region.wanted ⟨d, op, t, p, af, g⟩ (yielded ops a.tmps) = true then Oper.wp P ⟨d, op, t, p, af, g⟩ a w K' Q else K' (a.put d undef) w) : AllReadyH P md ops Q S fuel listed a w [i] :=
  AllReadyH.cons ho h AllReadyH.nil
end
theorem results_stamp {fn : Func} {p q : Tmp} (h : fn.results = #[.cell p 38, .tmp q]) (tmps : Array Value) (w : World) (b T : Nat) (c : Array Value) (hc : c.size = 2) (hp : tmps.getD p undef = .pointer (some ⟨b, 0, none⟩)) (hr : Row w b c T) :
    (results fn tmps).run Try.prog w = .ok (.tuple #[.agg c, tmps.getD q undef]) w := by
  have hp' : tmps[p]?.getD undef = .pointer (some ⟨b, 0, none⟩) := by simpa using hp
  have hl := run_loadVar_row (P := Try.prog) w b T 38 c (0, 0) _ hr Try.underlying38 rfl (by rw [hc]; kernel_rfl)
  simp [results, h, hp', asAddr, hl]
theorem size_key : (Try.prog.info? 63).map (·.size) = some 37 := by kernel_rfl
theorem still_load_key {o : Oper} {a : Act} {w : World} {K : Act → Prop} (x : Operand) (ho : o.op = .load 63 x)
    (b : Nat) (hx : a.eval x = .pointer (some ⟨b, 0, none⟩)) (T : TypeId) (A : Array Value) (hlen : A.size = 37) (hr : Row w b A T) (hk : K (a.put o.dst (.agg A))) : o.still Try.prog a w K := by
  have h := run_loadVar_mid (P := Try.prog) w b 0 63 A.toList _ (fun i v hv => by rw [Nat.zero_add, hr.cell i]; simpa using hv) Try.underlying63 rfl (by rw [Array.length_toList, hlen, size_key])
  unfold Oper.still execOp
  simp only [ho, hx, Instr.loadAt, Instr.sureAddr, Sem.run_bind, Sem.run_pure, Result.andThen_ok, h]
  exact ⟨rfl, hk⟩

set_option maxRecDepth 100000 in
theorem stamp_nil (T A : Nat) (m : List Nat) (k : KeyV) (hk : k.Ok) (w : World) (h : Lns T A m w) (hm : ∀ x ∈ m, x < 1000000) :
    Calls Try.prog 20 #[.pointer (some ⟨T, 0, none⟩), .nilIface, .agg (keyC k).toArray] w fun e w' =>
      e = .returned (.tuple #[.agg #[.int .i64 (laneOf k m.length : Nat), .int .u64 (m.getD (laneOf k m.length) 0 : Nat)], .int .i64 0]) ∧ Sm (fun b => b = A) w w' ∧ Lns T A (m.set (laneOf k m.length) (m.getD (laneOf k m.length) 0 + 1)) w' := by
  have hTl := h.rT.lt
  have hAl := h.rA.lt
  have hr := (Row.new w (keyC k).toArray 63).alloc (.cells #[.int .i64 0, .int .u64 0] 38 (0, 0))
  have hS := ((Sm.refl (fun _ => False) w).alloc (.cells (keyC k).toArray 63)).alloc (.cells #[.int .i64 0, .int .u64 0] 38 (0, 0))
  have hr2 := Row.new (w.alloc (.cells (keyC k).toArray 63)) #[.int .i64 0, .int .u64 0] 38
  simp only [World.size_alloc] at hr2
  obtain ⟨w1, hw1⟩ : ∃ w1, w1 = (w.alloc (.cells (keyC k).toArray 63)).alloc (.cells #[.int .i64 0, .int .u64 0] 38 (0, 0)) := ⟨_, rfl⟩
  rw [← hw1] at hr hS hr2
  have hlen : (keyC k).toArray.size = 37 := by simpa using keyC_len k hk
  have h1 : Lns T A m w1 := h.sm hS (fun h => h) (fun h => h)
  have hL : laneOf k m.length < m.length := Nat.mod_lt _ h.pos
  have HC := Lib.hid (flane_c k hk m.length h.pos h.le w1.drew)
  obtain ⟨R, hR⟩ : ∃ R, R = w.heap.size := ⟨_, rfl⟩
  obtain ⟨L, hLe⟩ : ∃ L, L = laneOf k m.length := ⟨_, rfl⟩
  rw [← hLe] at HC hL ⊢
  obtain ⟨KA, hKA⟩ : ∃ KA, KA = (keyC k).toArray := ⟨_, rfl⟩
  rw [← hKA] at HC hr hlen hw1 ⊢
  have c0 : w1.cell? ⟨T, 0, none⟩ = some (.slice (some ⟨A, 0, none⟩) m.length m.length) := h1.rT.cell 0
  have c1 := c0
  rw [hw1] at c1
  have hnil : ∀ W, (binOp .eql 113 (.slice (some ⟨A, 0, none⟩) m.length m.length) (.slice none 0 0)).run Try.prog W = .ok (.bool false) W := fun W => run_eql_slice_some_nilX W _ _ _ Try.underlying113
  have HW1 := Lib.hid hw1
  have HR := Lib.hid hr
  have HR2 := Lib.hid hr2
  have HS := Lib.hid hS
  have H1 := Lib.hid h1
  have HRE := Lib.hid hR
  clear hw1 hr hr2 hS h h1 hLe hKA hR
  go_enter Try.func20, Try.ntmps20
  go_wp2
  rw [← HW1.out]
  clear c1
  refine wp_region_held_drew (S := fun W => W.rangeAt w.heap.size 0 KA.toList ∧ W.cell? ⟨T, 0, none⟩ = some (.slice (some ⟨A, 0, none⟩) m.length m.length)) (by kernel_rfl) ⟨fun i v hv => by rw [Nat.zero_add, HR.out.drew.cell i]; simpa using hv, c0⟩ (fun hHeld => ?_)
  refine take_at (i := 0) (v := .agg KA) rfl (by kernel_rfl) (by kernel_rfl) (by kernel_rfl) (fun _ _ _ h => h)
    (yieldsIf_load_mid (by rfl) 63 (.tmp 5) rfl w.heap.size 0 (by simp [Act.eval]) KA.toList _ (fun W h => h.1) Try.underlying63 rfl (by rw [Array.length_toList, hlen, size_key])) hHeld ?_
  simp only [Act.put, List.setIfInBounds_toArray, List.set_cons_zero, List.set_cons_succ]
  refine take_at (i := 1) (v := .pointer (some ⟨T, 0, none⟩)) rfl (by kernel_rfl) (by kernel_rfl) (by kernel_rfl) (fun _ _ _ h => h) (Or.inl ⟨by rfl, fun W hSw => by dsimp only at hSw; go_simp⟩) hHeld ?_
  simp only [Act.put, List.setIfInBounds_toArray, List.set_cons_zero, List.set_cons_succ]
  refine take_at (i := 2) (v := .pointer (some ⟨T, 0, none⟩)) rfl (by kernel_rfl) (by kernel_rfl) (by kernel_rfl) (fun _ _ _ h => h) (Or.inl ⟨by rfl, fun W hSw => by dsimp only at hSw; go_simp⟩) hHeld ?_
  simp only [Act.put, List.setIfInBounds_toArray, List.set_cons_zero, List.set_cons_succ]
  refine take_at (i := 3) (v := .pointer (some ⟨T, 0, none⟩)) rfl (by kernel_rfl) (by kernel_rfl) (by kernel_rfl) (fun _ _ _ h => h) (Or.inl ⟨by rfl, fun W hSw => by dsimp only at hSw; go_simp⟩) hHeld ?_
  simp only [Act.put, List.setIfInBounds_toArray, List.set_cons_zero, List.set_cons_succ]
  refine take_at (i := 4) (v := .slice (some ⟨A, 0, none⟩) m.length m.length) rfl (by kernel_rfl) (by kernel_rfl) (by kernel_rfl) (fun _ _ _ h => h) (Or.inl ⟨by rfl, fun W hSw => by dsimp only at hSw; go_simp⟩) hHeld ?_
  simp only [Act.put, List.setIfInBounds_toArray, List.set_cons_zero, List.set_cons_succ]
  refine take_at (i := 5) (v := .int .i64 m.length) rfl (by kernel_rfl) (by kernel_rfl) (by kernel_rfl) (fun _ _ _ h => h) (Or.inl ⟨by rfl, fun W hSw => by dsimp only at hSw; go_simp⟩) hHeld ?_
  simp only [Act.put, List.setIfInBounds_toArray, List.set_cons_zero, List.set_cons_succ]
  refine wpAnyH_ready (rs := [6]) (by kernel_rfl) (by simp) ?_
  refine ready_at rfl (fun K hK => ?_)
  refine step_fn rfl 33 #[.tmp 21, .tmp 26] #[63, 3] rfl Try.func33 (by kernel_rfl) rfl #[.agg KA, .int .i64 m.length] (by simp [Act.eval]) (R := fun v x => v = .tuple #[.int .i64 (L : Int), .int .i64 0] ∧ Sm (fun _ => False) w1.drew x) (HC.out.mono (fun e x h => ⟨_, h.1, rfl, h.2⟩)) ?_
  rintro v w2 ⟨rfl, h3⟩
  have r2 : Row w2 w.heap.size KA 63 := HR.out.drew.sm h3 (fun h => h)
  have l2 : Lns T A m w2 := H1.out.sm (Sm.trans ((Sm.refl (fun _ => False) w1).drew) h3) (fun h => h) (fun h => h)
  refine hK.out _ _ ⟨fun i v hv => by rw [Nat.zero_add, r2.cell i]; simpa using hv, l2.rT.cell 0⟩ (fun hHeld => ?_)
  clear hK K
  simp only [Act.put, List.setIfInBounds_toArray, List.set_cons_zero, List.set_cons_succ]
  refine take_at (i := 7) (v := .tuple #[.int .i64 (L : Int), .int .i64 0]) rfl (by kernel_rfl) (by kernel_rfl) (by kernel_rfl) (fun _ _ _ h => h) (Or.inl ⟨by rfl, fun W hSw => by dsimp only at hSw; go_simp⟩) hHeld ?_
  simp only [Act.put, List.setIfInBounds_toArray, List.set_cons_zero, List.set_cons_succ]
  refine take_at (i := 8) (v := .int .i64 (L : Int)) rfl (by kernel_rfl) (by kernel_rfl) (by kernel_rfl) (fun _ _ _ h => h) (Or.inl ⟨by rfl, fun W hSw => by dsimp only at hSw; go_simp⟩) hHeld ?_
  simp only [Act.put, List.setIfInBounds_toArray, List.set_cons_zero, List.set_cons_succ]
  refine take_at (i := 9) (v := .int .i64 0) rfl (by kernel_rfl) (by kernel_rfl) (by kernel_rfl) (fun _ _ _ h => h) (Or.inl ⟨by rfl, fun W hSw => by dsimp only at hSw; go_simp⟩) hHeld ?_
  simp only [Act.put, List.setIfInBounds_toArray, List.set_cons_zero, List.set_cons_succ]
  refine take_at (i := 10) (v := .int .i64 (L : Int)) rfl (by kernel_rfl) (by kernel_rfl) (by kernel_rfl) (fun _ _ _ h => h) (Or.inl ⟨by rfl, fun W hSw => by dsimp only at hSw; go_simp⟩) hHeld ?_
  simp only [Act.put, List.setIfInBounds_toArray, List.set_cons_zero, List.set_cons_succ]
  refine take_at (i := 11) (v := .int .i64 0) rfl (by kernel_rfl) (by kernel_rfl) (by kernel_rfl) (fun _ _ _ h => h) (Or.inl ⟨by rfl, fun W hSw => by dsimp only at hSw; go_simp⟩) hHeld ?_
  simp only [Act.put, List.setIfInBounds_toArray, List.set_cons_zero, List.set_cons_succ]
  refine wpAnyH_done (by kernel_rfl) ?_ _
  have b2 : Row w2 (w.heap.size + 1) #[.int .i64 0, .int .u64 0] 38 := HR2.out.drew.sm h3 (fun h => h)
  have hAb : A ≠ w.heap.size + 1 := by omega
  obtain ⟨x, hx⟩ : ∃ x, x = m.getD L 0 := ⟨_, rfl⟩
  have hx1 : x < 1000000 := by
    rw [hx, List.getD_eq_getElem?_getD, List.getElem?_eq_getElem hL]
    exact hm _ (List.getElem_mem hL)
  have ca : w2.cell? ⟨A, L, none⟩ = some (.int .u64 (x : Int)) := (l2.rA.cell L).trans ((uw_get m L hL).trans (by rw [hx]; simp [hL]))
  have fa : w2.frozen? ⟨A, L, none⟩ = false := l2.rA.free L
  have ct : w2.cell? ⟨T, 0, none⟩ = some (.slice (some ⟨A, 0, none⟩) m.length m.length) := l2.rT.cell 0
  have b3 := b2.set_ne (a := ⟨A, L, none⟩) hAb (.int .u64 ((x + 1 : Nat) : Int))
  have l3 : Lns T A (m.set L (x + 1)) (w2.setCell ⟨A, L, none⟩ (.int .u64 ((x + 1 : Nat) : Int))) := by
    refine ⟨?_, ?_, l2.ne, by simpa using l2.pos, by simpa using l2.le⟩
    · have := l2.rT.set_ne (a := ⟨A, L, none⟩) (fun e => l2.ne e.symm) (.int .u64 ((x + 1 : Nat) : Int))
      simpa using this
    · rw [← uw_set]
      exact l2.rA.set _ _
  have s3 : Sm (fun b => b = A) w (w2.setCell ⟨A, L, none⟩ (.int .u64 ((x + 1 : Nat) : Int))) :=
    Sm.setCell (F := fun b => b = A) (p := ⟨A, L, none⟩) ((HS.out.trans (((Sm.refl _ w1).drew).trans h3)).mono (fun _ h => h.elim)) rfl _
  have hsz : w.heap.size ≤ w2.heap.size := Nat.le_trans HS.out.size h3.size
  have L3 := Lib.hid l3
  have S3 := Lib.hid s3
  have B3 := Lib.hid b3
  have HX := Lib.hid hx
  have i1 : (0 : Int) ≤ (L : Int) := by omega
  have i2 : (L : Int) < (m.length : Int) := by omega
  clear hHeld r2 l2 h3 l3 s3 b3 hx HC HR HR2 HS H1 hnil
  go_wp2_with fail
  refine (aadd ⟨A, L, none⟩ x 1 (x + 1) w2 ca fa (by omega)).mono ?_
  rintro e w3 ⟨rfl, rfl⟩
  have p0 := B3.out.cell 0
  have p1 := B3.out.cell 1
  have q0 := B3.out.free 0
  have q1 := B3.out.free 1
  have hsub : IntKind.u64.wrap (((x + 1 : Nat) : Int) - 1) = (x : Int) := by rw [IntKind.wrap_u64]; omega
  clear ca fa ct
  obtain ⟨w3, hw3⟩ : ∃ w3, w3 = w2.setCell ⟨A, L, none⟩ (.int .u64 ((x + 1 : Nat) : Int)) := ⟨_, rfl⟩
  rw [← hw3] at p0 p1 q0 q1 L3 S3 B3
  rw [← hw3]
  clear hw3
  go_wp2
  have rr := (B3.out.set 0 (.int .i64 (L : Int))).set 1 (.int .u64 (x : Int))
  simp only [List.setIfInBounds_toArray, List.set_cons_zero, List.set_cons_succ] at rr
  refine bodyPost_ret (results_stamp rfl _ _ (w.heap.size + 1) 38 _ (by simp) rfl rr) rfl ?_
  have e := HX.out
  subst e
  exact ⟨rfl, (S3.out.setNew (by simp) _).setNew (by simp) _, L3.out.sm (((Sm.refl (fun b => b = w.heap.size + 1) w3).setCell rfl _).setCell rfl _) (by omega) (by omega)⟩
end Go.Proofs.Ythjdnhlckjchgaa
