/- LaneKepts, walked alone. -/
import Derived.Test.YthjdnhlckjchgaaLanL
import Derived.Test.YthjdnhlckjchgaaLanN
import Derived.Laws.AppendOwnNone
namespace Go.Proofs.Ythjdnhlckjchgaa
open Go.RowKit
set_option linter.unusedVariables false
set_option linter.unusedSimpArgs false

def doneS (n : Int) (s : Nat) : List Value := [.int .i64 n, .int .i64 0, .int .u64 (s : Int), .int .u64 0, .int .i64 0, .int .i64 0, .int .i64 0, .int .i64 0, .int .i64 0, .bool false, .bool false, .int .i64 0]
theorem info_done : (Try.prog.info? 54).map (fun i => (i.zero, i.size, i.bytes)) = some (some (.agg (doneS 0 0).toArray), 12, 88) := by kernel_rfl
theorem info_key : (Try.prog.info? 63).map (fun i => (i.zero, i.size, i.bytes)) = some (some (.agg (keyC (keyP 0)).toArray), 37, 40) := by kernel_rfl
def rowsD (ns : List Int) (k : Nat) : List (List Value) := (List.range k).map fun j => doneS (ns.getD j 0) j
theorem rowsD_succ (ns : List Int) (k : Nat) : rowsD ns (k + 1) = rowsD ns k ++ [doneS (ns.getD k 0) k] := by simp [rowsD, List.range_succ]
theorem rowsD_len (ns : List Int) (k : Nat) : (rowsD ns k).length = k := by simp [rowsD]
theorem rowsD_12 (ns : List Int) (k : Nat) : ∀ r ∈ rowsD ns k, r.length = 12 := by
  intro r hr
  simp [rowsD] at hr
  obtain ⟨j, -, rfl⟩ := hr
  rfl
theorem own_reads {sz : Nat} {w : World} {base : Nat} {n : Nat} {e : TypeId} {v : Value} {xs : List Value} (hsz : 0 < sz) (h : w.ownsRow base e sz v n xs) :
    ∃ a c, v = .slice a n c ∧ n ≤ c ∧ xs.length = n * sz ∧ (0 < n → ∃ g, a = some ⟨g, 0, none⟩ ∧ base ≤ g ∧ g < w.heap.size ∧ ∀ j u, xs[j]? = some u → w.cell? ⟨g, j, none⟩ = some u) := by
  obtain ⟨h1, h2⟩ := h
  rcases h2 with ⟨rfl, rfl⟩ | ⟨g, cap, cur, rfl, hg, hh, hn, hm, hs, ht⟩
  · exact ⟨none, 0, rfl, Nat.le_refl _, h1, fun h => absurd h (by omega)⟩
  · refine ⟨_, cap, rfl, hn, h1, fun _ => ⟨g, rfl, hg, (Array.getElem?_eq_some_iff.1 hh).1, fun j u hj => ?_⟩⟩
    have hr : Row w g cur e := hh
    rw [hr.cell j]
    rw [← ht, List.getElem?_take] at hj
    split at hj
    · simpa using hj
    · cases hj
theorem recs_own {w : World} {base : Nat} {T : TypeId} {sz n : Nat} {v : Value} (rows : List (List Value)) (hsz : 0 < sz) (h : w.ownsRow base T sz v n rows.flatten) (hl : ∀ r ∈ rows, r.length = sz) (hn : rows.length = n) : Recs sz v rows w := by
  subst hn
  obtain ⟨a, c, hv, hc, -, hr⟩ := own_reads hsz h
  refine ⟨a, c, hv, hc, fun h0 => ?_⟩
  obtain ⟨g, ha, -, hg, hcl⟩ := hr h0
  refine ⟨g, 0, ha, hg, fun j hj i v hv => ?_⟩
  rw [Nat.zero_add]
  exact hcl _ v (flat_get sz rows hl j hj i v hv)
theorem flatten_len (sz : Nat) : ∀ (rows : List (List Value)), (∀ r ∈ rows, r.length = sz) → rows.flatten.length = rows.length * sz
  | [], _ => by simp
  | r :: rs, h => by
    rw [List.flatten_cons, List.length_append, flatten_len sz rs (fun x hx => h x (by simp [hx])), h r (by simp), List.length_cons, Nat.succ_mul, Nat.add_comm]
theorem flat_at (sz : Nat) (hs : 0 < sz) (rows : List (List Value)) (hl : ∀ r ∈ rows, r.length = sz) (j : Nat) (v : Value) (h : rows.flatten[j]? = some v) : ∃ hj : j / sz < rows.length, (rows[j / sz])[j % sz]? = some v := by
  have h1 := (List.getElem?_eq_some_iff.1 h).1
  rw [flatten_len sz rows hl] at h1
  have hj : j / sz < rows.length := (Nat.div_lt_iff_lt_mul hs).2 h1
  have hm : j % sz < rows[j / sz].length := by rw [hl _ (List.getElem_mem hj)]; exact Nat.mod_lt _ hs
  refine ⟨hj, ?_⟩
  have := flat_get sz rows hl (j / sz) hj (j % sz) _ (List.getElem?_eq_getElem hm)
  rw [Nat.div_add_mod' j sz, h] at this
  rw [List.getElem?_eq_getElem hm]
  exact this.symm
/-- A slice of rows, cut short. -/
theorem Recs.take {sz : Nat} {a : Option Addr} {n c : Nat} {rows : List (List Value)} {w : World} (h : Recs sz (.slice a n c) rows w) (m : Nat) (hm : m = (rows.take 100).length) : Recs sz (.slice a m c) (rows.take 100) w := by
  subst hm
  obtain ⟨a', c', e, hc, hr⟩ := h
  simp at e
  obtain ⟨rfl, rfl, rfl⟩ := e
  refine ⟨a, c, rfl, by simp; omega, fun h0 => ?_⟩
  obtain ⟨b, o, ha, hb, hr⟩ := hr (by simp at h0; omega)
  refine ⟨b, o, ha, hb, fun j hj => ?_⟩
  have := hr j (by simp at hj; omega)
  simpa using this

set_option maxRecDepth 100000 in
/-- A whole slice of keys appended to nil. -/
theorem wpList_append_keys {w : World} {ops : Array Oper} {rest : List Oper} {o : Oper} {a : Act} {Q : Exit → Act → World → Prop} (hgd : o.guard = none) (s x : Operand)
    (ho : o.op = .call { callee := .builtin .append, args := #[s, x], argTypes := #[47, 47] })
    (hs : a.eval s = .slice none 0 0) (A : Option Addr) (n c : Nat) (hx : a.eval x = .slice A n c) (hnil : A = none → n = 0 ∧ c = 0) (ks : List KeyV) (hks : ∀ k ∈ ks, k.Ok) (hn : n = ks.length) (H : Recs 37 (.slice A n c) (ks.map keyC) w) (hreach : n * 40 ≤ 140737488355328)
    (hK : ∀ a2 c2 w', Recs 37 (.slice a2 n c2) (ks.map keyC) w' → Sm (fun _ => False) w w' → wpList Try.prog ops Q rest (a.put o.dst (.slice a2 n c2)) w') : wpList Try.prog ops Q (o :: rest) a w := by
  obtain ⟨i0, hi, hz0, hz1, hz2⟩ := info_parts info_key
  have h37 : ∀ r ∈ ks.map keyC, r.length = 37 := fun r hr => by
    obtain ⟨k, hk, rfl⟩ := List.mem_map.1 hr
    exact keyC_len k (hks k hk)
  cases A with
  | none =>
    obtain ⟨rfl, rfl⟩ := hnil rfl
    obtain rfl : ks = [] := List.eq_nil_of_length_eq_zero hn.symm
    refine wpList_append_own_none hgd s x 47 ho 0 63 i0 37 Try.underlying47 hi _ 0 [] hs (World.ownsRow_nil _ _ _ _) hx ?_
    exact hK none 0 w ⟨none, 0, rfl, Nat.le_refl _, fun h => absurd h (by decide)⟩ (Sm.refl _ _)
  | some ad =>
    have hfl := flatten_len 37 (ks.map keyC) h37
    refine wpList_append_own _ hgd s x 47 ho w.heap.size 63 i0 (.agg (keyC (keyP 0)).toArray) 37 40 Try.underlying47 hi hz0 hz1 hz2 rfl (by decide) _ 0 [] hs (World.ownsRow_nil _ _ _ _) ad n c (ks.map keyC).flatten hx (by rw [hfl, List.length_map, ← hn]) ?_ ?_ (by unfold maxLen; omega) (by omega) (Nat.le_refl _) ?_
    · intro j u hu
      obtain ⟨hj, hu2⟩ := flat_at 37 (by decide) _ h37 j u hu
      obtain ⟨a', c', e, hc, hr⟩ := H
      simp at e
      obtain ⟨b, o', ha, hb, hr⟩ := hr (by omega)
      rw [← e.1] at ha
      simp at ha
      subst ha
      rw [add_plain']
      have := hr _ hj _ _ hu2
      rwa [Nat.add_assoc, Nat.div_add_mod'] at this
    · intro u hu
      obtain ⟨r, hr, hu⟩ := List.mem_flatten.1 hu
      obtain ⟨k, hk, rfl⟩ := List.mem_map.1 hr
      simp only [keyC, addrC, ub, List.mem_append, List.mem_cons, List.mem_map, List.not_mem_nil, or_false] at hu
      rcases hu with ((rfl | ⟨x, -, rfl⟩) | (rfl | ⟨x, -, rfl⟩)) | rfl | rfl | rfl <;> rfl
    · intro v' w' hown hgr _
      rw [Nat.zero_add, List.nil_append] at hown
      have hsm : Sm (fun _ => False) w w' := sm_grown hgr (fun k hk => by cases hk)
      obtain ⟨a2, c2, rfl⟩ := own_form0 hown
      exact hK a2 c2 w' (recs_own _ (by decide) hown h37 (by simp [hn])) hsm

def numsD (ns : List Int) (k : Nat) : List Int := (List.range k).map fun j => ns.getD j 0
theorem rowsD_ok (ns : List Int) (k : Nat) : ∀ j (h : j < (rowsD ns k).length), (rowsD ns k)[j].length = 12 ∧ (∀ v ∈ (rowsD ns k)[j], v.oneCell' = true) ∧ (rowsD ns k)[j][0]? = (numsD ns k)[j]?.map (Value.int .i64 ·) := by
  intro j hj
  rw [rowsD_len] at hj
  simp [rowsD, numsD, doneS, hj, Value.oneCell']
theorem run_neq_keys (a b : KeyV) (ha : a.Ok) (hb : b.Ok) (w : World) : (binOp .neq 63 (.agg (keyC a).toArray) (.agg (keyC b).toArray)).run Try.prog w = .ok (.bool (decide (a ≠ b))) w := by
  have h := eq_keys a b ha hb w
  obtain ⟨A, hA⟩ : ∃ A, A = (keyC a).toArray := ⟨_, rfl⟩
  obtain ⟨B, hB⟩ : ∃ B, B = (keyC b).toArray := ⟨_, rfl⟩
  rw [← hA, ← hB] at h ⊢
  clear hA hB
  simp only [binOp]
  simp [Op.equal, Op.maxDepth, h]
set_option maxRecDepth 20000 in
theorem quiet_neq_keys {o : Oper} {a : Act} {C : World → Prop} {K : Act → Prop} {ty : TypeId} (x y : Operand) (ho : o.op = .binOp .neq 63 x y ty) (k k' : KeyV) (hk : k.Ok) (hk' : k'.Ok) (hx : a.eval x = .agg (keyC k).toArray) (hy : a.eval y = .agg (keyC k').toArray)
    (h : K (a.put o.dst (.bool (decide (k ≠ k'))))) : o.quiet Try.prog a C K :=
  ⟨_, fun w hw => by
    have hr := run_neq_keys k k' hk hk' w
    obtain ⟨A, hA⟩ : ∃ A, A = (keyC k).toArray := ⟨_, rfl⟩
    obtain ⟨B, hB⟩ : ∃ B, B = (keyC k').toArray := ⟨_, rfl⟩
    rw [← hA] at hr hx
    rw [← hB] at hr hy
    clear hA hB
    have hg := run_eqGuard_agg (P := Try.prog) (w := w) .neq 63 x y A B (by kernel_rfl)
    unfold Oper.quietAt execOp
    simp only [ho, hx, hy, Sem.run_bind, hg, hr, Result.andThen_ok, Sem.run_pure]
    exact ⟨rfl, rfl⟩, h⟩

set_option maxRecDepth 100000 in
set_option maxHeartbeats 6400000 in
theorem kepts_walk (ks : List KeyV) (hks : ∀ k ∈ ks, k.Ok) (ka : Option Addr) (l kc : Nat) (hkn : ka = none → l = 0 ∧ kc = 0) (hl : l = ks.length) (hkl : l ≤ 9223372036854775807) (ns : List Int) (na : Option Addr) (n nc : Nat) (hn : n = ns.length) (hnl : n ≤ 9223372036854775807)
    (w : World) (hK : Recs 37 (.slice ka l kc) (ks.map keyC) w) (hN : Ints (.slice na n nc) ns w) :
    Calls Try.prog 4 #[.slice ka l kc, .slice na n nc] w fun e w' => e = .returned (.bool true) ∧ Sm (fun _ => False) w w' := by
  obtain ⟨i0, hi, hz0, hz1, hz2⟩ := info_parts info_done
  have Hi := Lib.hid hi
  have Hz0 := Lib.hid hz0
  have Hz1 := Lib.hid hz1
  have Hz2 := Lib.hid hz2
  have HKN := Lib.hid hkn
  have HN := Lib.hid hn
  have HL := Lib.hid hl
  have HK := Lib.hid hK
  have HNS := Lib.hid hN
  have HKS := Lib.hid hks
  clear hi hz0 hz1 hz2 hkn hn hl hK hN hks
  go_enter Try.func4, Try.ntmps4
  go_wp2
  go_loopw [5, 6] (fun s5 s6 wr => ∃ k : Nat, k ≤ n ∧ k ≤ 100 ∧ s6 = .int .i64 k ∧ Hid (wr.ownsRow w.heap.size 54 12 s5 k (rowsD ns k).flatten) ∧ Hid (Sm (fun _ => False) w wr)) (fun s5 s6 wr => n - (intOf s6).toNat)
  case atStart => exact ⟨0, by omega, by omega, rfl, Lib.hid (World.ownsRow_nil _ _ _ _), Lib.hid (Sm.refl _ _)⟩
  case round =>
    obtain ⟨k, hk, hk6, rfl, hown, hS⟩ := hrel
    by_cases hlt : k < n ∧ k < 100
    · obtain ⟨hlt, h6⟩ := hlt
      have j1 : (k : Int) < (n : Int) := by omega
      have j6 : (k : Int) < 100 := by omega
      have hp : wrap64 ((k : Int) + 1) = ((k + 1 : Nat) : Int) := by unfold wrap64; omega
      have HP := Lib.hid hp
      clear hp
      obtain ⟨a1, c1, e1, r1⟩ := HNS.out.sm hS.out (fun _ _ h => h)
      obtain ⟨b1, o1, rfl, -, q1⟩ := r1 (by rw [← HN.out]; omega)
      simp only [Value.slice.injEq] at e1
      obtain ⟨rfl, -, rfl⟩ := e1
      have hkn : k < ns.length := by rw [← HN.out]; exact hlt
      have hq := q1 k hkn
      have hd : ns.getD k 0 = ns[k] := by simp [List.getD, hkn]
      rw [← hd] at hq
      obtain ⟨x, hx⟩ : ∃ x, x = ns.getD k 0 := ⟨_, rfl⟩
      rw [← hx] at hq
      have HX := Lib.hid hx
      obtain ⟨a5, c5, hv5⟩ := own_form0 hown.out
      subst hv5
      clear q1 r1 hd hx
      have hw : IntKind.u64.wrap (k : Int) = (k : Int) := by rw [IntKind.wrap_u64]; omega
      have hlt5 : ∀ g, (Value.slice a5 k c5).ownBlock = some g → g < wr.heap.size := fun g e => (hown.out.lt _ e).2
      have hge5 : ∀ g, (Value.slice a5 k c5).ownBlock = some g → w.heap.size ≤ g := fun g e => (hown.out.lt _ e).1
      have hsz := hS.out.size
      go_wp2_with (at_builtin; refine wpList_append_own _ rfl (.tmp 23) (.tmp 32) 48 rfl w.heap.size 54 i0 (.agg (doneS 0 0).toArray) 12 88 Try.underlying48 Hi.out Hz0.out Hz1.out Hz2.out rfl (by decide) _ k (rowsD ns k).flatten rfl (hown.out.alloc _) ⟨wr.heap.size, 0, none⟩ 1 1 (doneS x k) rfl rfl (new_cells wr (doneS x k) 54) (by simp [doneS, Value.oneCell']) (by unfold maxLen; omega) (by omega) (by simp; omega) ?_; intro v' W4 hown4 hgr4 _; have HOWN4 := Lib.hid hown4; have HGR4 : Hid ((wr.alloc (.cells (doneS x k).toArray 54 (0, 0))).grownBy W4 (Value.slice a5 k c5).ownBlock) := Lib.hid hgr4; clear hown4 hgr4)
      have n1 : Hid (W4.ownsRow w.heap.size 54 12 v' (k + 1) (rowsD ns (k + 1)).flatten) := Lib.hid (by
        rw [rowsD_succ, List.flatten_append, ← HX.out]
        simpa using HOWN4.out)
      have n2 : Hid (Sm (fun _ => False) w W4) := Lib.hid (grow_sm hS.out hlt5 HGR4.out hge5)
      clear HOWN4 HGR4 hlt5 hge5 hown hS
      go_roundw
      case rel => exact ⟨k + 1, by omega, by omega, by first | rw [HP.out] | go_num, n1, n2⟩
      case measure => (try rw [HP.out]); simp only [intOf]; omega
    · have hex : ¬ ((k : Int) < (n : Int)) ∨ ((k : Int) < (n : Int) ∧ ¬ (k : Int) < 100) := by omega
      have hD5 := recs_own _ (by decide) hown.out (rowsD_12 ns k) (rowsD_len ns k)
      obtain ⟨a5, c5, hv5⟩ := own_form0 hown.out
      subst hv5
      obtain ⟨L, hL⟩ : ∃ L, L = (ks.take 100).length := ⟨_, rfl⟩
      have hL2 : L = if l ≤ 100 then l else 100 := by
        rw [hL, List.length_take, ← HL.out]
        split <;> omega
      have HLK := Lib.hid hL
      have HD5 := Lib.hid hD5
      have hcap : l ≤ kc := by
        obtain ⟨a', c', e, hc, -⟩ := HK.out
        simp only [Value.slice.injEq] at e
        rw [e.2.2, e.2.1]
        exact hc
      have HKT := Lib.hid (show Recs 37 (.slice ka L kc) ((ks.take 100).map keyC) wr by
        have := (HK.out.take L (by rw [hL]; simp)).sm hS.out (fun _ _ h => h)
        rwa [← List.map_take] at this)
      have HKN2 := Lib.hid (show ka = none → L = 0 ∧ kc = 0 from fun h => by
        have := HKN.out h
        split at hL2 <;> omega)
      have HKS2 := Lib.hid (show ∀ q ∈ ks.take 100, q.Ok from fun q hq => HKS.out q (List.mem_of_mem_take hq))
      have hL100 : L ≤ 100 := by split at hL2 <;> omega
      have hcut : ((l : Int) ≤ 100 ∧ (l : Int) ≤ (kc : Int) ∧ L = l) ∨ (100 < (l : Int) ∧ (100 : Int) ≤ (kc : Int) ∧ L = 100) := by
        split at hL2 <;> omega
      clear hD5 hL hown hL2 HK HKS HNS HN HL HKN hcap hkl hnl
      rcases hex with j1 | ⟨j1, j6⟩ <;> rcases hcut with ⟨j7, j8, e7⟩ | ⟨j7, j8, e7⟩ <;> subst e7
      all_goals
        go_wp2_with (at_builtin; refine wpList_append_keys rfl (.tmp 39) (.tmp 40) rfl (by simp [Act.eval, Act.put]) _ _ _ (by simp [Act.eval, Act.put]) HKN2.out (ks.take 100) HKS2.out HLK.out HKT.out (by omega) ?_; intro a2 c2 W4 hr4 hs4; have HR4 := Lib.hid hr4; have HS4 := Lib.hid hs4; clear hr4 hs4)
        obtain ⟨M, hM⟩ : ∃ M, M = (ks.take 100).length := ⟨_, rfl⟩
        have HM2 := Lib.hid (HLK.out.trans hM.symm)
        have HM := Lib.hid hM
        clear hM
        have HKT4 := Lib.hid (HKT.out.sm HS4.out (fun _ _ h => h))
        have HD4 := Lib.hid (HD5.out.sm HS4.out (fun _ _ h => h))
        have HS5 := Lib.hid (hS.out.trans HS4.out)
        clear HKT HD5 hS HS4
        refine (kept_c (ks.take 100) HKS2.out (by rw [List.length_take]; omega) _ _ (numsD ns k) (rowsD ns k) (by simp [rowsD, numsD]) (by simp [numsD]; omega) (rowsD_ok ns k) W4 HKT4.out HD4.out).mono ?_
        rintro e W5 ⟨rfl, hs5⟩
        have HR5 := Lib.hid (HR4.out.sm hs5 (fun _ _ h => h))
        have HKT5 := Lib.hid (HKT4.out.sm hs5 (fun _ _ h => h))
        have HD6 := Lib.hid (HD4.out.sm hs5 (fun _ _ h => h))
        have HS6 := Lib.hid (HS5.out.trans hs5)
        clear HR4 HKT4 HD4 HS5 hs5
        obtain ⟨D, hD⟩ : ∃ D, D = keptF (ks.take 100) (numsD ns k) 0 fun _ => 0 := ⟨_, rfl⟩
        have HDD := Lib.hid hD
        rw [← hD]
        clear hD
        go_wp2_with fail
        refine (rkept_c (ks.take 100) HKS2.out (by rw [List.length_take]; omega) _ _ (numsD ns k) (rowsD ns k) (by simp [rowsD, numsD]) (by simp [numsD]; omega) (fun j h => (rowsD_ok ns k j h).2.2) W5 HR5.out HD6.out).mono ?_
        rintro e W6 ⟨rfl, hs6⟩
        rw [← HDD.out]
        have HR6 := Lib.hid (HR5.out.sm hs6 (fun _ _ h => h))
        have HKT6 := Lib.hid (HKT5.out.sm hs6 (fun _ _ h => h))
        have HS7 := Lib.hid (HS6.out.trans hs6)
        clear HR5 HKT5 HD6 HS6 hs6 HDD
        go_wp2
        go_loopw [12] (fun s12 wx => ∃ i : Nat, i ≤ M ∧ s12 = .int .i64 i ∧ Hid (Sm (fun _ => False) W6 wx)) (fun s12 wx => M - (intOf s12).toNat)
        case atStart => exact ⟨0, by omega, rfl, Lib.hid (Sm.refl _ _)⟩
        case round =>
          obtain ⟨i, hiM, rfl, hSx⟩ := hrel
          by_cases hix : i < M
          · have j9 : (i : Int) < (M : Int) := by omega
            rw [← HM2.out] at j9
            have j10 : i < (ks.take 100).length := by rw [← HM.out]; exact hix
            have hp2 : wrap64 ((i : Int) + 1) = ((i + 1 : Nat) : Int) := by have := HM2.out; unfold wrap64; omega
            have HP2 := Lib.hid hp2
            obtain ⟨q1, q2, q3, -, q4⟩ := HKT6.out.sm hSx.out (fun _ _ h => h)
            obtain ⟨kb, ko, rfl, -, q5⟩ := q4 (by rw [List.length_map]; omega)
            simp only [Value.slice.injEq] at q3
            obtain ⟨rfl, -, rfl⟩ := q3
            obtain ⟨r1, r2, r3, -, r4⟩ := HR6.out.sm hSx.out (fun _ _ h => h)
            obtain ⟨kb2, ko2, rfl, -, r5⟩ := r4 (by rw [List.length_map]; omega)
            simp only [Value.slice.injEq] at r3
            obtain ⟨rfl, -, rfl⟩ := r3
            have g1 := q5 i (by rw [List.length_map]; exact j10)
            have g2 := r5 i (by rw [List.length_map]; exact j10)
            rw [List.getElem_map] at g1 g2
            have hok := HKS2.out _ (List.getElem_mem j10)
            obtain ⟨kx, hkx⟩ : ∃ kx, kx = (ks.take 100)[i] := ⟨_, rfl⟩
            rw [← hkx] at g1 g2 hok
            have hlen := keyC_len kx hok
            have G1 := Lib.hid (show ∀ W : World, (∃ q, W = wr.drewN q) → W.rangeAt kb (ko + i * 37) (keyC kx) from fun W hW => by
              obtain ⟨q, rfl⟩ := hW
              exact g1)
            have G2 := Lib.hid (show ∀ W : World, (∃ q, W = wr.drewN q) → W.rangeAt kb2 (ko2 + i * 37) (keyC kx) from fun W hW => by
              obtain ⟨q, rfl⟩ := hW
              exact g2)
            have q6 : decide (kx ≠ kx) = false := by simp
            clear g1 g2 q5 r5 hkx hp2 j10 q4 r4
            go_wp2
            refine wp_region_quiet_lit (by kernel_rfl) (by kernel_rfl) ?_
            repeat (first
              | go_big_quiet_skip
              | (go_big_quiet_want; refine quiet_load_key (.tmp 62) rfl kb (ko + i * 37) (by simp [Act.eval]) (keyC kx) hlen G1.out ?_; simp only [Act.put, List.setIfInBounds_toArray, List.set_cons_succ, List.set_cons_zero]; go_big_quiet_on)
              | (go_big_quiet_want; refine quiet_load_key (.tmp 66) rfl kb2 (ko2 + i * 37) (by simp [Act.eval]) (keyC kx) hlen G2.out ?_; simp only [Act.put, List.setIfInBounds_toArray, List.set_cons_succ, List.set_cons_zero]; go_big_quiet_on)
              | (go_big_quiet_want; refine quiet_neq_keys (.tmp 63) (.tmp 67) rfl kx kx hok hok (by simp [Act.eval]) (by simp [Act.eval]) ?_; rw [q6]; simp only [Act.put, List.setIfInBounds_toArray, List.set_cons_succ, List.set_cons_zero]; go_big_quiet_on)
              | (go_big_quiet_want; go_big_quiet_op; go_big_quiet_on))
            refine wpQuiet_nil ?_
            intro _ hw'
            obtain ⟨nq, hw''⟩ := hw'
            subst hw''
            have r2 := Lib.hid (hSx.out.drewN nq)
            clear hSx
            go_wp2
            go_roundw
            case rel => exact ⟨i + 1, by omega, by first | rw [HP2.out] | go_num, r2⟩
            case measure => (try rw [HP2.out]); simp only [intOf]; omega
          · obtain rfl : i = M := by omega
            obtain rfl := HM2.out
            have r2 := Lib.hid (HS7.out.trans hSx.out)
            clear hSx HS7
            go_wp2_with fail
            refine (works_c _).mono ?_
            rintro e W7 ⟨rfl, hs7⟩
            have r3 := Lib.hid (r2.out.trans hs7)
            clear r2 hs7
            go_wp2
            go_ret
            exact ⟨by simp, r3.out⟩
end Go.Proofs.Ythjdnhlckjchgaa
