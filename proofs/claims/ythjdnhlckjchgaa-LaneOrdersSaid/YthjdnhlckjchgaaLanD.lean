/- flow.Bytes of a key, walked alone. -/
import Derived.Test.YthjdnhlckjchgaaLanC
import Derived.Deep.MidRow
namespace Go.Proofs.Ythjdnhlckjchgaa
open Go.RowKit
set_option linter.unusedVariables false
set_option linter.unusedSimpArgs false

/-- A key. -/
structure KeyV where
  s6 : Bool
  sb : List Nat
  d6 : Bool
  db : List Nat
  pr : Nat
  sp : Nat
  dp : Nat
  deriving DecidableEq
structure KeyV.Ok (k : KeyV) : Prop where
  sl : k.sb.length = 16
  dl : k.db.length = 16
  sx : ∀ x ∈ k.sb, x < 256
  dx : ∀ x ∈ k.db, x < 256
  px : k.pr < 256
  spx : k.sp < 65536
  dpx : k.dp < 65536
def addrC (v6 : Bool) (l : List Nat) : List Value := .bool v6 :: ub l
def keyC (k : KeyV) : List Value := addrC k.s6 k.sb ++ addrC k.d6 k.db ++ [.int .u8 (k.pr : Int), .int .u16 (k.sp : Int), .int .u16 (k.dp : Int)]
def addrB (v6 : Bool) (l : List Nat) : List Nat := (if v6 then 1 else 0) :: l
def keyB (k : KeyV) : List Nat := addrB k.s6 k.sb ++ addrB k.d6 k.db ++ [k.pr, k.sp / 256, k.sp % 256, k.dp / 256, k.dp % 256]
theorem addrC_len (v6 : Bool) (l : List Nat) (h : l.length = 16) : (addrC v6 l).length = 17 := by simp [addrC, ub_len, h]
theorem keyC_len (k : KeyV) (h : k.Ok) : (keyC k).length = 37 := by simp [keyC, addrC_len, h.sl, h.dl]
theorem keyC_src (k : KeyV) (h : k.Ok) (j : Nat) (hj : j < 17) : (keyC k)[j]? = (addrC k.s6 k.sb)[j]? := by
  unfold keyC
  have := addrC_len k.s6 k.sb h.sl
  rw [List.append_assoc, List.getElem?_append_left (by omega)]
theorem keyC_dst (k : KeyV) (h : k.Ok) (j : Nat) (hj : j < 17) : (keyC k)[17 + j]? = (addrC k.d6 k.db)[j]? := by
  unfold keyC
  have h1 := addrC_len k.s6 k.sb h.sl
  have h2 := addrC_len k.d6 k.db h.dl
  rw [List.append_assoc, List.getElem?_append_right (by omega), List.getElem?_append_left (by omega)]
  congr 1
  omega
theorem keyC_rest (k : KeyV) (h : k.Ok) (j : Nat) : (keyC k)[34 + j]? = [Value.int .u8 (k.pr : Int), .int .u16 (k.sp : Int), .int .u16 (k.dp : Int)][j]? := by
  unfold keyC
  have h1 := addrC_len k.s6 k.sb h.sl
  have h2 := addrC_len k.d6 k.db h.dl
  rw [List.getElem?_append_right (by simp; omega)]
  congr 1
  simp
  omega

theorem fold_get (off : Nat) : ∀ (l : List Value) (n : Nat) (cs : Array Value) (k : Nat),
    ((l.zipIdx n).foldl (fun cs x => cs.setIfInBounds (off + x.2) x.1) cs)[k]? = if off + n ≤ k ∧ k < off + n + l.length ∧ k < cs.size then l[k - (off + n)]? else cs[k]?
  | [], n, cs, k => by simp; intro h1 h2; omega
  | v :: l, n, cs, k => by
    rw [List.zipIdx_cons, List.foldl_cons, fold_get off l (n + 1)]
    simp only [Array.size_setIfInBounds, List.length_cons]
    by_cases h1 : off + n = k
    · subst h1
      rw [if_neg (by omega)]
      by_cases h2 : off + n < cs.size
      · rw [if_pos (by omega), Array.getElem?_setIfInBounds_self_of_lt h2]; simp
      · rw [if_neg (by omega), Array.getElem?_eq_none (by simpa using h2), Array.getElem?_eq_none (by simpa using h2)]
    · rw [Array.getElem?_setIfInBounds_ne h1]
      by_cases h2 : off + (n + 1) ≤ k ∧ k < off + (n + 1) + l.length ∧ k < cs.size
      · rw [if_pos h2, if_pos (by omega)]
        obtain ⟨j, rfl⟩ : ∃ j, k = off + n + (j + 1) := ⟨k - (off + n + 1), by omega⟩
        rw [show off + n + (j + 1) - (off + (n + 1)) = j by omega, show off + n + (j + 1) - (off + n) = j + 1 by omega]
        simp
      · rw [if_neg h2, if_neg (by omega)]

theorem fold_arr (off : Nat) (vs : Array Value) (cs : Array Value) : (vs.zipIdx.foldl (fun cs x => cs.setIfInBounds (off + x.2) x.1) cs) = (vs.toList.zipIdx.foldl (fun cs x => cs.setIfInBounds (off + x.2) x.1) cs) := by
  rw [← Array.foldl_toList, Array.toList_zipIdx]
theorem fold_size (off : Nat) (vs : Array Value) (cs : Array Value) : (vs.zipIdx.foldl (fun cs x => cs.setIfInBounds (off + x.2) x.1) cs).size = cs.size := by
  have hs : ∀ (l : List (Value × Nat)) (cs : Array Value), (l.foldl (fun cs x => cs.setIfInBounds (off + x.2) x.1) cs).size = cs.size := by
    intro l
    induction l with
    | nil => intro cs; rfl
    | cons x l ih => intro cs; rw [List.foldl_cons, ih]; simp
  rw [fold_arr, hs]

/-- A value of two parts of the same length. -/
theorem fill_two (A B z : Array Value) (s : Nat) (hA : A.size = s) (hB : B.size = s) (hz : z.size = s + s) : Instr.fill (fun i => some (i * s, s)) z [(0, .agg A), (1, .agg B)] = some (A ++ B) := by
  have e1 : (1 * s + B.size > (A.zipIdx.foldl (fun cs x => cs.setIfInBounds (0 * s + x.2) x.1) z).size) = False := by rw [fold_size]; simp; omega
  simp only [Instr.fill, Value.cells, hA, hB, ne_eq, not_true_eq_false, false_or]
  rw [hB] at e1
  have e0 : (0 * s + s > z.size) = False := by simp; omega
  simp only [e0, e1, decide_false, Bool.or_self, Bool.false_eq_true, if_false]
  congr 1
  rw [fold_arr, fold_arr]
  apply Array.ext_getElem?
  intro k
  have := fold_size (0 * s) A z
  rw [fold_arr] at this
  rw [fold_get, fold_get, this]
  by_cases h : k < s
  · rw [if_neg (by omega), if_pos (by simp [hA, hz]; omega), Array.getElem?_append_left (by omega)]
    simp
  · by_cases h2 : k < s + s
    · rw [if_pos (by simp [hB, hz]; omega), Array.getElem?_append_right (by omega), hA]
      simp
    · rw [if_neg (by simp [hB, hz]; omega), if_neg (by simp [hA, hz]; omega), Array.getElem?_eq_none (by omega), Array.getElem?_eq_none (by simp [hA, hB]; omega)]

theorem info_pair : (Try.prog.info? 211).map (fun i => (i.zero, i.size, i.bytes)) = some (some (.agg (addrC false (List.replicate 16 0) ++ addrC false (List.replicate 16 0)).toArray), 34, 34) := by kernel_rfl
theorem info_addr : (Try.prog.info? 60).map (fun i => (i.zero, i.size, i.bytes)) = some (some (.agg (addrC false (List.replicate 16 0)).toArray), 17, 17) := by kernel_rfl
theorem built_pair (A B : Array Value) (hA : A.size = 17) (hB : B.size = 17) : Try.prog.built 211 [(0, .agg A), (1, .agg B)] = some (A ++ B) := by
  obtain ⟨i0, h1, h2, h3, h4⟩ := info_parts info_pair
  obtain ⟨i1, k1, k2, k3, k4⟩ := info_parts info_addr
  unfold Program.built
  simp only [h1, Try.underlying211, h2, k1, k3, Value.cells]
  exact fill_two A B _ 17 hA hB (by simp [addrC, ub])
theorem part_addr (cs : Array Value) (off : Nat) (w : World) : (part 60 cs off).run Try.prog w = .ok (.agg (cs.extract off (off + 17))) w := by
  obtain ⟨i1, k1, k2, k3, k4⟩ := info_parts info_addr
  have hagg : (isAgg 60).run Try.prog w = .ok true w := by
    unfold isAgg
    rw [Sem.run_bind, run_underlying Try.underlying60 w]
    rfl
  unfold part
  simp [Sem.run_bind, hagg, sizeOf, typeInfo, k1, k3]
theorem index_pair0 (A B : Array Value) (hA : A.size = 17) (hB : B.size = 17) (w : World) : (Instr.index 211 (.agg (A ++ B)) (.int .i64 0)).run Try.prog w = .ok (.agg A) w := by
  obtain ⟨i1, k1, k2, k3, k4⟩ := info_parts info_addr
  have e : (A ++ B).extract (0 * 17) (0 * 17 + 17) = A := by
    apply Array.ext'
    simp
    rw [hA, List.take_of_length_le (by simp [hA])]
    simp
  have hp := part_addr (A ++ B) (0 * 17) w
  rw [e] at hp
  unfold Instr.index
  simp [Sem.run_bind, asIntOf, run_underlying Try.underlying211, sizeOf, typeInfo, k1, k3]
  simpa using hp
theorem index_pair1 (A B : Array Value) (hA : A.size = 17) (hB : B.size = 17) (w : World) : (Instr.index 211 (.agg (A ++ B)) (.int .i64 1)).run Try.prog w = .ok (.agg B) w := by
  obtain ⟨i1, k1, k2, k3, k4⟩ := info_parts info_addr
  have e : (A ++ B).extract (1 * 17) (1 * 17 + 17) = B := by
    apply Array.ext'
    simp
    rw [hA, List.drop_of_length_le (l := A.toList) (by simp [hA])]
    simp [List.take_of_length_le, hB]
  have hp := part_addr (A ++ B) (1 * 17) w
  rw [e] at hp
  unfold Instr.index
  simp [Sem.run_bind, asIntOf, run_underlying Try.underlying211, sizeOf, typeInfo, k1, k3]
  simpa using hp

theorem Row.setRow {w : World} {b : Nat} {c c' : Array Value} {T : TypeId} (h : Row w b c T) : Row (w.setRow b c') b c' T := setRow_heap w b c c' T (0, 0) h
/-- A call of a Go function by its contract, as one step of a region whose order is drawn. -/
theorem step_fn {P : Program} {ops : Array Oper} {o : Oper} {a : Act} {w : World} {K : Act → World → Prop} {Q : Exit → Act → World → Prop} {E : Prop} (hg : o.guard = none) (f : FuncId) (args : Array Operand) (ats : Array TypeId)
    (hop : o.op = .call { callee := .value (.func f), args := args, argTypes := ats }) {fn : Func} {c : Code} (hf : P.funcs[f]? = some fn) (hname : (fn.name == "runtime.NumGoroutine") = false) (hb : fn.body = some c)
    (vals : Array Value) (hv : args.map a.eval = vals) {R : Value → World → Prop} (hc : Calls P f vals w fun e w' => ∃ v, e = .returned v ∧ R v w') (hK : ∀ v w', R v w' → K (a.put o.dst v) w') :
    if Region.wanted o (yielded ops a.tmps) = true then Oper.wp P o a w K Q else E := by
  have hw : Region.wanted o (yielded ops a.tmps) = true := by simp [Region.wanted, hg]
  rw [if_pos hw]
  have hr : (execOp a.eval o).run P w = .ok (.enter f vals) w := by
    have h1 : fn.name ≠ "runtime.NumGoroutine" := by simpa using hname
    simp [execOp, hop, resolve, Deferred.ofValue, Act.eval, invoke, hv, callFunc, hf, h1, hb]
  unfold Oper.wp
  rw [hr, Oper.upon_enter]
  refine hc.mono ?_
  rintro e w' ⟨v, rfl, h⟩
  exact hK v w' h

theorem own_drew {w : World} {base size n : Nat} {e : TypeId} {v : Value} {xs : List Value} (h : w.ownsRow base e size v n xs) : w.drew.ownsRow base e size v n xs := h
theorem own_base {w : World} {b b' size n : Nat} {e : TypeId} {v : Value} {xs : List Value} (h : w.ownsRow b e size v n xs) (hb : b' ≤ b) : w.ownsRow b' e size v n xs := by
  obtain ⟨h1, h2⟩ := h
  refine ⟨h1, ?_⟩
  rcases h2 with h2 | ⟨g, cap, cur, hv, hg, r⟩
  · exact .inl h2
  · exact .inr ⟨g, cap, cur, hv, Nat.le_trans hb hg, r⟩
theorem grow_put {F : Nat → Prop} {w1 w2 w3 w4 : World} {e : TypeId} {v : Value} {n size : Nat} {xs : List Value} (h1 : Sm F w1 w2) (h2 : Sm (fun _ => False) w2.drew w3) (ho : w3.ownsRow w2.drew.heap.size e size v n xs) (hg : w3.grownBy w4 v.ownBlock) : Sm F w1 w4 :=
  ⟨hg.os.trans (h2.os.trans h1.os), hg.tape.trans (h2.tape.trans h1.drew.tape), hg.output.trans (h2.output.trans h1.output), Nat.le_trans h1.size (Nat.le_trans h2.size hg.size), fun j hj hf =>
    (hg.block j (Nat.lt_of_lt_of_le hj (Nat.le_trans h1.size h2.size)) (fun e => by
      have hs : w2.heap.size ≤ j := (ho.lt j e.symm).1
      have := h1.size
      omega)).trans ((h2.block j (Nat.lt_of_lt_of_le hj h1.size) (fun h => h)).trans (h1.block j hj hf))⟩
theorem cells_after {w2 w3 : World} {R : Nat} {C : Array Value} {T : TypeId} {NW : List Value} (h : Row w2 R C T) (hs : Sm (fun _ => False) w2.drew w3) (hc : ∀ j, j < 16 → C[1 + j]? = NW[j]?) (hl : NW.length = 16 * 1) :
    ∀ j u, NW[j]? = some u → w3.cell? ((⟨R, 1, none⟩ : Addr).add j) = some u := by
  intro j u hj
  have hj2 := (List.getElem?_eq_some_iff.1 hj).1
  rw [Addr.add_mid, hs.cell (p := ⟨R, 1 + j, none⟩) h.lt (fun h => h)]
  rw [← hc j (by omega)] at hj
  exact (h.drew.cell (1 + j)).trans hj
/-- The bytes behind so many rounds. -/
def pre (k : KeyV) : Nat → List Nat
  | 0 => []
  | 1 => addrB k.s6 k.sb
  | _ => addrB k.s6 k.sb ++ addrB k.d6 k.db
theorem pre_len (k : KeyV) (h : k.Ok) (i : Nat) (hi : i ≤ 2) : (pre k i).length = 17 * i := by
  rcases (by omega : i = 0 ∨ i = 1 ∨ i = 2) with rfl | rfl | rfl <;> simp [pre, addrB, h.sl, h.dl]

theorem two_index (k : KeyV) (hk : k.Ok) (i : Nat) (hi : i < 2) : ∃ c6 cl, cl.length = 16 ∧ (∀ x ∈ cl, x < 256) ∧ (pre k i ++ addrB c6 cl = pre k (i + 1)) ∧
    ∀ w, (Instr.index 211 (.agg ((addrC k.s6 k.sb).toArray ++ (addrC k.d6 k.db).toArray)) (.int .i64 i)).run Try.prog w = .ok (.agg (addrC c6 cl).toArray) w := by
  have hA : (addrC k.s6 k.sb).length = 17 := addrC_len _ _ hk.sl
  have hB : (addrC k.d6 k.db).length = 17 := addrC_len _ _ hk.dl
  rcases (by omega : i = 0 ∨ i = 1) with rfl | rfl
  · exact ⟨k.s6, k.sb, hk.sl, hk.sx, rfl, fun w => index_pair0 _ _ (by simpa using hA) (by simpa using hB) w⟩
  · exact ⟨k.d6, k.db, hk.dl, hk.dx, rfl, fun w => index_pair1 _ _ (by simpa using hA) (by simpa using hB) w⟩

set_option maxRecDepth 100000 in
theorem bytes_c (k : KeyV) (hk : k.Ok) (w : World) :
    Calls Try.prog 81 #[.agg (keyC k).toArray] w fun e w' => ∃ v, e = .returned v ∧ w'.ownsRow w.heap.size 5 1 v (keyB k).length (ub (keyB k)) ∧ Sm (fun _ => False) w w' := by
  obtain ⟨i0, hi, hz0, hz1, hz2⟩ := info_parts info_u8
  have HI := Lib.hid hi
  clear hi
  have hr := Row.new w (keyC k).toArray 63
  have hS := (Sm.refl (fun _ => False) w).alloc (.cells (keyC k).toArray 63)
  have hA : (addrC k.s6 k.sb).length = 17 := addrC_len _ _ hk.sl
  have hB : (addrC k.d6 k.db).length = 17 := addrC_len _ _ hk.dl
  obtain ⟨w1, hw1⟩ : ∃ w1, w1 = w.alloc (.cells (keyC k).toArray 63) := ⟨_, rfl⟩
  rw [← hw1] at hr hS
  have r1 : w1.rangeAt w.heap.size 0 (addrC k.s6 k.sb) := by
    intro j v hj
    have hj2 : j < 17 := by rw [← hA]; exact (List.getElem?_eq_some_iff.1 hj).1
    rw [Nat.zero_add, hr.cell j, List.getElem?_toArray, keyC_src k hk j hj2]
    exact hj
  have r2 : w1.rangeAt w.heap.size 17 (addrC k.d6 k.db) := by
    intro j v hj
    have hj2 : j < 17 := by rw [← hB]; exact (List.getElem?_eq_some_iff.1 hj).1
    rw [hr.cell (17 + j), List.getElem?_toArray, keyC_dst k hk j hj2]
    exact hj
  have hsz1 : (Try.prog.info? 60).map (·.size) = some (addrC k.s6 k.sb).length := by rw [hA]; kernel_rfl
  have hsz2 : (Try.prog.info? 60).map (·.size) = some (addrC k.d6 k.db).length := by rw [hB]; kernel_rfl
  have hbt := built_pair (addrC k.s6 k.sb).toArray (addrC k.d6 k.db).toArray (by simpa using hA) (by simpa using hB)
  obtain ⟨A, hAe⟩ : ∃ A, A = addrC k.s6 k.sb := ⟨_, rfl⟩
  obtain ⟨B, hBe⟩ : ∃ B, B = addrC k.d6 k.db := ⟨_, rfl⟩
  rw [← hAe] at r1 hsz1 hA hbt
  rw [← hBe] at r2 hsz2 hB hbt
  have HR := Lib.hid hr
  have HS := Lib.hid hS
  have R1 := Lib.hid r1
  have R2 := Lib.hid r2
  have HAE := Lib.hid hAe
  have HBE := Lib.hid hBe
  have HBT := Lib.hid hbt
  have HAB := Lib.hid (show (Try.prog.built 211 [(0, .agg A.toArray), (1, .agg B.toArray)]).getD #[] = A.toArray ++ B.toArray by rw [hbt]; rfl)
  have HW1 := Lib.hid hw1
  clear hr hS r1 r2 hAe hBe hbt hw1
  go_enter Try.func81, Try.ntmps81
  go_wp2_with (first
    | (refine wpList_load_mid rfl 60 (.tmp 7) rfl w.heap.size 0 (by simp [Act.eval]) A _ (by rw [← HW1.out]; exact R1.out) Try.underlying60 rfl hsz1 ?_; rw [← HW1.out])
    | refine wpList_load_mid rfl 60 (.tmp 9) rfl w.heap.size 17 (by simp [Act.eval, Act.put]) B _ R2.out Try.underlying60 rfl hsz2 ?_
    | refine wpList_build rfl 211 #[(0, .tmp 8), (1, .tmp 10)] rfl (by simp [Act.eval, Act.put, HBT.out]) ?_)
  go_loopw [3, 12] (fun s3 s12 wr => ∃ i : Nat, i ≤ 2 ∧ s12 = .int .i64 i ∧ Hid (wr.ownsRow w.heap.size 5 1 s3 (pre k i).length (ub (pre k i))) ∧ Hid (Sm (fun _ => False) w1 wr)) (fun s3 s12 _ => 2 - (intOf s12).toNat)
  case atStart => exact ⟨0, by omega, rfl, Lib.hid (World.ownsRow_nil _ _ _ _), Lib.hid (by rw [HW1.out]; exact Sm.refl _ _)⟩
  case round =>
    obtain ⟨i, hi, rfl, hown, hsm⟩ := hrel
    by_cases hlt : i < 2
    · have j1 : (i : Int) < 2 := by omega
      obtain ⟨c6, cl, hcl, hcx, hpre, hidx⟩ := two_index k hk i hlt
      rw [← HAE.out, ← HBE.out, ← HAB.out] at hidx
      have hpl := pre_len k hk i hi
      obtain ⟨P, hP⟩ : ∃ P, P = pre k i := ⟨_, rfl⟩
      rw [← hP] at hown hpre hpl
      have hC := addrC_len c6 cl hcl
      obtain ⟨C, hCe⟩ : ∃ C, C = (addrC c6 cl).toArray := ⟨_, rfl⟩
      rw [← hCe] at hidx
      have HPL := Lib.hid hpl
      have HP := Lib.hid (show wrap64 ((i : Int) + 1) = ((i + 1 : Nat) : Int) by unfold wrap64; omega)
      have hpl2 : P.length ≤ 34 := by omega
      obtain ⟨NW, hNW⟩ : ∃ NW, NW = ub cl := ⟨_, rfl⟩
      have hNL : NW.length = 16 * 1 := by rw [hNW, ub_len, hcl]
      have HNW := Lib.hid hNW
      have hN1 : ∀ u ∈ NW, u.oneCell' = true := by
        intro v hv
        rw [hNW] at hv
        obtain ⟨j, hj⟩ := List.getElem?_of_mem hv
        exact (ub_get cl j v hj).2
      have hCN : ∀ j, j < 16 → C[1 + j]? = NW[j]? := by
        intro j hj
        rw [hCe, hNW]
        simp [addrC, Nat.add_comm 1 j]
      have HCN := Lib.hid hCN
      clear hpl hNW hCN
      have HPRE := Lib.hid hpre
      have HCX := Lib.hid hcx
      have HCE := Lib.hid hCe
      have h1C : C.all (·.oneCell') = true := by
        rw [HCE.out]
        simp [addrC, ub, Value.oneCell']
      have hCs : C.size = 17 := by rw [HCE.out]; simpa using hC
      have hC0 : C[0]? = some (.bool c6) := by rw [HCE.out]; simp [addrC]
      have hszC : (Try.prog.info? 60).map (·.size) = some C.size := by rw [hCs]; kernel_rfl
      have hz : Row (wr.alloc (.cells (#[Value.bool false, .int .u8 0, .int .u8 0, .int .u8 0, .int .u8 0, .int .u8 0, .int .u8 0, .int .u8 0, .int .u8 0, .int .u8 0, .int .u8 0, .int .u8 0, .int .u8 0, .int .u8 0, .int .u8 0, .int .u8 0, .int .u8 0]) 60)) wr.heap.size (#[Value.bool false, .int .u8 0, .int .u8 0, .int .u8 0, .int .u8 0, .int .u8 0, .int .u8 0, .int .u8 0, .int .u8 0, .int .u8 0, .int .u8 0, .int .u8 0, .int .u8 0, .int .u8 0, .int .u8 0, .int .u8 0, .int .u8 0]) 60 := Row.new _ _ _
      have hzs : (#[Value.bool false, .int .u8 0, .int .u8 0, .int .u8 0, .int .u8 0, .int .u8 0, .int .u8 0, .int .u8 0, .int .u8 0, .int .u8 0, .int .u8 0, .int .u8 0, .int .u8 0, .int .u8 0, .int .u8 0, .int .u8 0, .int .u8 0]).size = C.size := by rw [hCs]; rfl
      obtain ⟨w2, hw2⟩ : ∃ w2, w2 = (wr.alloc (.cells (#[Value.bool false, .int .u8 0, .int .u8 0, .int .u8 0, .int .u8 0, .int .u8 0, .int .u8 0, .int .u8 0, .int .u8 0, .int .u8 0, .int .u8 0, .int .u8 0, .int .u8 0, .int .u8 0, .int .u8 0, .int .u8 0, .int .u8 0]) 60)).setRow wr.heap.size C := ⟨_, rfl⟩
      have hr2 := hz.setRow (c' := C)
      rw [← hw2] at hr2
      have hc0 : w2.cell? ⟨wr.heap.size, 0, none⟩ = some (.bool c6) := (hr2.cell 0).trans hC0
      have hs2 : Sm (fun _ => False) wr w2 := by
        rw [hw2]
        exact ⟨rfl, rfl, rfl, by simp [World.setRow], fun k hk _ => (setRow_other _ _ k _ (by omega)).trans (Below.heap_alloc _ _ _ hk)⟩
      have HW2 := Lib.hid hw2
      have HR2 := Lib.hid hr2
      have HS2 := Lib.hid (hsm.out.trans hs2)
      obtain ⟨a3, c3, hv3⟩ := own_form0 hown.out
      subst hv3
      have HO2 := Lib.hid (own_sm hown.out hs2 (fun _ _ h => h))
      have HSZ := Lib.hid (show w.heap.size ≤ w2.drew.heap.size from Nat.le_trans HS.out.size HS2.out.size)
      clear hpre hcx hP hCe hw2 hr2 hs2 hsm hown
      cases c6
      · skip
        go_wp2_with (refine wpList_store_row rfl 60 (.tmp 5) (.tmp 14) rfl wr.heap.size C (by simp [Act.eval, Act.put]) (by simp [Act.eval, Act.put]) 60 _ hz hszC hzs h1C ?_; rw [← HW2.out])
        go_region_law? (first
          | (refine step_fn rfl 89 #[.tmp 19, .tmp 20] #[177, 5] rfl Try.func89 (by kernel_rfl) rfl #[.slice a3 P.length c3, .int .u8 0] (by simp [Act.eval, Act.put]) (put8 (.slice a3 P.length c3) P 0 (by decide) (by omega) w2.drew (own_drew (own_zero HO2.out))) ?_; intro v3 w3 hw3; have HW3 := Lib.hid hw3; clear hw3)
          | (refine step_append_own rfl (.tmp 21) (.tmp 23) 177 rfl w.heap.size 5 i0 (.int .u8 0) 1 1 Try.underlying177 HI.out hz0 hz1 hz2 rfl (by decide) v3 (P ++ [0]).length (ub (P ++ [0])) (by simp [Act.eval, Act.put]) (own_base HW3.out.1 HSZ.out) ⟨wr.heap.size, 1, none⟩ 16 16 NW (by simp [Act.eval, Act.put]) hNL (cells_after HR2.out HW3.out.2 HCN.out hNL) hN1 (by unfold maxLen; simp; omega) (by simp; omega) (Nat.le_trans HSZ.out HW3.out.2.size) ?_; intro v4 w4 hw4 hg4))
        have n1 : Hid (w4.ownsRow w.heap.size 5 1 v4 (pre k (i + 1)).length (ub (pre k (i + 1)))) := Lib.hid (by
          have e : pre k (i + 1) = (P ++ [0]) ++ cl := by rw [← HPRE.out]; simp [addrB]
          have e2 : (pre k (i + 1)).length = (P ++ [0]).length + 16 := by rw [e, List.length_append, hcl]
          rw [e2, e, ub_app (P ++ [0]), ← HNW.out]
          exact hw4)
        have n3 : Hid (Sm (fun _ => False) w1 w4) := Lib.hid (grow_put HS2.out HW3.out.2 HW3.out.1 hg4)
        clear hw4 hg4 HW3 HS2 HO2 HCN HPRE HNW HCE HR2
        go_wp2
        go_roundw
        case rel => exact ⟨i + 1, by omega, by first | rw [HP.out] | go_num, n1, n3⟩
        case measure => (try rw [HP.out]); simp only [intOf]; omega
      · skip
        go_wp2_with (refine wpList_store_row rfl 60 (.tmp 5) (.tmp 14) rfl wr.heap.size C (by simp [Act.eval, Act.put]) (by simp [Act.eval, Act.put]) 60 _ hz hszC hzs h1C ?_; rw [← HW2.out])
        go_region_law? (first
          | (refine step_fn rfl 89 #[.tmp 19, .tmp 20] #[177, 5] rfl Try.func89 (by kernel_rfl) rfl #[.slice a3 P.length c3, (.int .u8 1)] (by simp [Act.eval, Act.put]) (put8 (.slice a3 P.length c3) P 1 (by decide) (by omega) w2.drew (own_drew (own_zero HO2.out))) ?_; intro v3 w3 hw3; have HW3 := Lib.hid hw3; clear hw3)
          | (refine step_append_own rfl (.tmp 21) (.tmp 23) 177 rfl w.heap.size 5 i0 (.int .u8 0) 1 1 Try.underlying177 HI.out hz0 hz1 hz2 rfl (by decide) v3 (P ++ [1]).length (ub (P ++ [1])) (by simp [Act.eval, Act.put]) (own_base HW3.out.1 HSZ.out) ⟨wr.heap.size, 1, none⟩ 16 16 NW (by simp [Act.eval, Act.put]) hNL (cells_after HR2.out HW3.out.2 HCN.out hNL) hN1 (by unfold maxLen; simp; omega) (by simp; omega) (Nat.le_trans HSZ.out HW3.out.2.size) ?_; intro v4 w4 hw4 hg4))
        have n1 : Hid (w4.ownsRow w.heap.size 5 1 v4 (pre k (i + 1)).length (ub (pre k (i + 1)))) := Lib.hid (by
          have e : pre k (i + 1) = (P ++ [1]) ++ cl := by rw [← HPRE.out]; simp [addrB]
          have e2 : (pre k (i + 1)).length = (P ++ [1]).length + 16 := by rw [e, List.length_append, hcl]
          rw [e2, e, ub_app (P ++ [1]), ← HNW.out]
          exact hw4)
        have n3 : Hid (Sm (fun _ => False) w1 w4) := Lib.hid (grow_put HS2.out HW3.out.2 HW3.out.1 hg4)
        clear hw4 hg4 HW3 HS2 HO2 HCN HPRE HNW HCE HR2
        go_wp2
        go_roundw
        case rel => exact ⟨i + 1, by omega, by first | rw [HP.out] | go_num, n1, n3⟩
        case measure => (try rw [HP.out]); simp only [intOf]; omega
    · obtain rfl : i = 2 := by omega
      have hrr : Row wr w.heap.size (keyC k).toArray 63 := HR.out.sm hsm.out (fun h => h)
      have hsw : Sm (fun _ => False) w wr := HS.out.trans hsm.out
      have hpl : (pre k 2).length = 34 := pre_len k hk 2 (by omega)
      obtain ⟨P, hP⟩ : ∃ P, P = pre k 2 := ⟨_, rfl⟩
      rw [← hP] at hown hpl
      obtain ⟨a3, c3, hv3⟩ := own_form0 hown.out
      subst hv3
      have hcell : ∀ (x : World), Sm (fun _ => False) wr x → ∀ j v, [Value.int .u8 (k.pr : Int), .int .u16 (k.sp : Int), .int .u16 (k.dp : Int)][j]? = some v → x.cell? ⟨w.heap.size, 34 + j, none⟩ = some v := by
        intro x hx j v hj
        rw [← keyC_rest k hk j] at hj
        exact ((hrr.sm hx (fun h => h)).cell (34 + j)).trans (by simpa using hj)
      have HCELL := Lib.hid hcell
      have HP := Lib.hid hP
      have HPL := Lib.hid hpl
      have HSW := Lib.hid hsw
      have hc0 := hcell wr (Sm.refl _ _) 0 _ rfl
      rw [Nat.add_zero] at hc0
      clear hcell hP hpl hsw hrr hsm
      go_wp2_with fail
      refine (put8 _ P k.pr hk.px (by rw [HPL.out]; omega) wr (own_zero hown.out)).mono ?_
      rintro e w3 ⟨v3, rfl, h3⟩
      have hc1 := HCELL.out w3 h3.2 1 _ rfl
      rw [show 34 + 1 = 35 from rfl] at hc1
      obtain ⟨P1, hP1⟩ : ∃ P1, P1 = P ++ [k.pr] := ⟨_, rfl⟩
      rw [← hP1] at h3
      have hpl1 : P1.length ≤ 40 := by rw [hP1, List.length_append, HPL.out]; simp
      have HP1 := Lib.hid hP1
      clear hP1
      obtain ⟨a4, c4, hv4⟩ := own_form0 h3.1
      subst hv4
      have HW3 := Lib.hid h3
      clear h3 hc0
      go_wp2_with fail
      refine (put16 _ P1 k.sp hk.spx (by omega) w3 (own_zero HW3.out.1)).mono ?_
      rintro e w4 ⟨v4, rfl, h4⟩
      have hc2 := HCELL.out w4 (HW3.out.2.trans h4.2) 2 _ rfl
      rw [show 34 + 2 = 36 from rfl] at hc2
      obtain ⟨P2, hP2⟩ : ∃ P2, P2 = P1 ++ [k.sp / 256, k.sp % 256] := ⟨_, rfl⟩
      rw [← hP2] at h4
      have hpl2 : P2.length ≤ 42 := by rw [hP2, List.length_append]; simp; omega
      have HP2 := Lib.hid hP2
      clear hP2
      obtain ⟨a5, c5, hv5⟩ := own_form0 h4.1
      subst hv5
      have HW4 := Lib.hid h4
      clear h4 hc1
      go_wp2_with fail
      refine (put16 _ P2 k.dp hk.dpx (by omega) w4 (own_zero HW4.out.1)).mono ?_
      rintro e w5 ⟨v5, rfl, h5⟩
      have HW5 := Lib.hid h5
      clear h5 hc2
      go_wp2
      go_ret
      have e : P2 ++ [k.dp / 256, k.dp % 256] = keyB k := by
        rw [HP2.out, HP1.out, HP.out]
        simp [pre, keyB]
      have h5 := HW5.out.1
      rw [e] at h5
      exact ⟨_, rfl, own_base h5 (Nat.le_trans HSW.out.size (Nat.le_trans HW3.out.2.size HW4.out.2.size)), HSW.out.trans (HW3.out.2.trans (HW4.out.2.trans HW5.out.2))⟩
end Go.Proofs.Ythjdnhlckjchgaa
