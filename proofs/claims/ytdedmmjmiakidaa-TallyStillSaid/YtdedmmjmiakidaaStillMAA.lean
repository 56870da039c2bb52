/- Small facts for the walk of TallyJoins. -/
import Derived.Test.YtdedmmjmiakidaaFwAM
import Derived.Test.YtdedmmjmiakidaaFwAL
import Derived.Test.YtdedmmjmiakidaaFwAJ
import Derived.StillTailTactics
import Derived.Deep.Cut
import Derived.Test.YtdedmmjmiakidaaFwAK
set_option linter.unusedVariables false
set_option linter.unusedSimpArgs false
/- Small facts for the walk of TallyJoins. -/
namespace Go.Proofs.Ytdedmmjmiakidaa
open Go.RowKit
set_option linter.unusedVariables false

def u64s (l : List Nat) : List Value := l.map fun (x : Nat) => Value.int .u64 (x : Int)
theorem u64s_len (l : List Nat) : (u64s l).length = l.length := by simp [u64s]
theorem u64s_snoc (l : List Nat) (x : Nat) : u64s (l ++ [x]) = u64s l ++ [.int .u64 (x : Int)] := by simp [u64s]
theorem u64s_get (l : List Nat) (i : Nat) (h : i < l.length) : (u64s l)[i]? = some (.int .u64 ((l.getD i 0 : Nat) : Int)) := by simp [u64s, h]

theorem own_keep {F : Nat → Prop} {w w' : World} {base : Nat} {e : TypeId} {size : Nat} {v : Value} {n : Nat} {xs : List Value} (h : w.ownsRow base e size v n xs) (k : Sm F w w') (hF : ∀ b, v.ownBlock = some b → ¬ F b) :
    w'.ownsRow base e size v n xs := by
  obtain ⟨h1, h2⟩ := h
  refine ⟨h1, ?_⟩
  rcases h2 with h2 | ⟨g, cap, cur, hv, hg, hh, r⟩
  · exact .inl h2
  · refine .inr ⟨g, cap, cur, hv, hg, ?_, r⟩
    rw [k.block g (Array.getElem?_eq_some_iff.1 hh).1 (hF g (by rw [hv]; rfl))]
    exact hh

theorem own_not_his {w : World} {base size n H : Nat} {e : TypeId} {v : Value} {xs : List Value} {m : List Nat} (h : w.ownsRow base e size v n xs) (hh : His H m w) (he : e ≠ 58) : ∀ b, v.ownBlock = some b → ¬ b = H := by
  intro b hb e1
  subst e1
  exact own_ne_row h hh.r he hb

/-- Where a number of a row lies. -/
theorem RowsOwn.look {g m : Nat} {Z : Nat → List Nat} {A : Nat → Option Addr} {C : Nat → Nat} {w : World} (h : RowsOwn g m Z A C w) {r j b o : Nat} (hr : r < m) (hj : j < (Z r).length) (hA : A r = some ⟨b, o, none⟩) :
    w.cell? ⟨g, r, none⟩ = some (.slice (some ⟨b, o, none⟩) (Z r).length (C r)) ∧ w.cell? ⟨b, o + j, none⟩ = some (.int .u64 (((Z r).getD j 0 : Nat) : Int)) := by
  obtain ⟨b', o', h1, h2, h3⟩ := h.dat r hr j hj
  rw [hA] at h1
  simp only [Option.some.injEq, Addr.mk.injEq] at h1
  obtain ⟨rfl, rfl, -⟩ := h1
  exact ⟨by rw [h.hd r hr, hA], h3⟩

theorem RowsOwn.sm' {F : Nat → Prop} {g m : Nat} {Z : Nat → List Nat} {A : Nat → Option Addr} {C : Nat → Nat} {w w' : World} (h : RowsOwn g m Z A C w) (k : Sm F w w') (hF : ∀ b, b < w.heap.size → ¬ F b) : RowsOwn g m Z A C w' :=
  h.sm (Sm.refl _ w) k hF

theorem take_snoc' (l : List Nat) (j : Nat) (h : j < l.length) : l.take (j + 1) = l.take j ++ [l.getD j 0] := by
  rw [List.take_succ_eq_append_getElem h]
  simp [List.getD, h]

theorem flatH_succ (f : Nat → List Nat) (n : Nat) : flatH f (n + 1) = flatH f n ++ (uw (f n)).toList := rfl
theorem hspec_lt (l : List Nat) (h : ∀ x ∈ l, x < 18446744073709551616) : ∀ x ∈ hspec l, x < 18446744073709551616 := by
  intro x hx
  simp only [hspec, List.mem_map, List.mem_range] at hx
  obtain ⟨i, hi, rfl⟩ := hx
  unfold hspecAt
  split
  · exact Nat.mod_lt _ (by decide)
  · split
    · exact Nat.mod_lt _ (by decide)
    · clear hi
      induction l with
      | nil => simp
      | cons y l ih =>
        have := h y (by simp)
        have := ih (fun x hx => h x (by simp [hx]))
        simp only [List.foldr_cons]
        omega

/-- Joined from the front, and from the back. -/
theorem joinN_cat (Z : Nat → List Nat) : ∀ n, joinN (fun j => hspec (Z j)) n = hspec (cat Z n)
  | 0 => by rw [cat, hspec_nil]; rfl
  | n + 1 => by
    rw [cat, ← hjoin_spec, ← joinN_cat Z n]
    rfl
def catB (Z : Nat → List Nat) (n : Nat) : Nat → List Nat
  | 0 => []
  | k + 1 => catB Z n k ++ Z (n - 1 - k)
theorem catB_spec (Z : Nat → List Nat) (n : Nat) : ∀ k, k ≤ n → hspec (cat Z (n - k) ++ catB Z n k) = hspec (cat Z n)
  | 0, _ => by simp [catB]
  | k + 1, h => by
    have e : n - k = n - (k + 1) + 1 := by omega
    have ih := catB_spec Z n k (by omega)
    rw [← ih, e, cat, catB]
    have e2 : n - 1 - k = n - (k + 1) := by omega
    rw [e2]
    have h1 : ∀ a b c : List Nat, hspec (a ++ (b ++ c)) = hspec (a ++ (c ++ b)) := fun a b c => by
      rw [← hjoin_spec, hspec_comm b c, hjoin_spec]
    rw [h1, ← List.append_assoc]
theorem catB_all (Z : Nat → List Nat) (n : Nat) : hspec (catB Z n n) = hspec (cat Z n) := by
  have := catB_spec Z n n (Nat.le_refl _)
  rw [Nat.sub_self, cat, List.nil_append] at this
  exact this
theorem joinN_two (a b : List Nat) : joinN (fun j => if j = 0 then a else b) 2 = hjoin (hjoin hzero a) b := rfl
end Go.Proofs.Ytdedmmjmiakidaa
/- Plain words: bits, Order of an order, walked alone. No condition. -/
namespace Go.Proofs.Ytdedmmjmiakidaa
open Go.RowKit
set_option linter.unusedVariables false
set_option linter.unusedSimpArgs false
theorem shift_pos (v k : Nat) (hv : v < 18446744073709551616) (hk : k ≤ 64) : (0 : Int) < (v : Int) / 2 ^ k ↔ ¬ Lib.bitLen v ≤ k := by
  rw [bitLen_iff v k hv hk]
  have hp : 0 < 2 ^ k := Nat.pos_of_ne_zero (by simp)
  have e : ((v : Int) / 2 ^ k) = ((v / 2 ^ k : Nat) : Int) := by push_cast; rfl
  rw [e]
  constructor
  · intro h h2
    have : v / 2 ^ k = 0 := Nat.div_eq_of_lt (by omega)
    omega
  · intro h
    have : 1 ≤ v / 2 ^ k := (Nat.le_div_iff_mul_le hp).2 (by omega)
    omega
set_option maxRecDepth 100000 in
theorem bits_c (v : Nat) (hv : v < 18446744073709551616) (w : World) :
    Calls Try.prog 58 #[.int .u64 v] w fun e w' => e = .returned (.int .i64 (Lib.bitLen v : Nat)) ∧ w = w' := by
  have hb : Lib.bitLen v ≤ 64 := bitLen_le 64 v hv (by decide)
  go_enter Try.func58, Try.ntmps58
  go_wp2
  go_loop [3] (fun s3 => ∃ k : Nat, k ≤ Lib.bitLen v ∧ s3 = .int .i64 k) (fun s3 => 64 - (intOf s3).toNat)
  case atStart => exact ⟨0, by omega, rfl⟩
  case round =>
    obtain ⟨k, hk, rfl⟩ := hrel
    have hp : wrap64 ((k : Int) + 1) = ((k + 1 : Nat) : Int) := by unfold wrap64; omega
    have HP := Lib.hid hp
    clear hp
    by_cases h64 : k < 64
    · have i1 : (k : Int) < 64 := by omega
      by_cases hq : Lib.bitLen v ≤ k
      · have i2 : (v : Int) / 2 ^ k ≤ 0 := Int.not_lt.1 fun h => (shift_pos v k hv (by omega)).1 h hq
        have HK := Lib.hid (show k = Lib.bitLen v by omega)
        go_wp2
        go_ret
        refine ⟨?_, rfl⟩
        rw [← HK.out]
        rfl
      · have i2 : (0 : Int) < (v : Int) / 2 ^ k := (shift_pos v k hv (by omega)).2 hq
        go_wp2
        go_round
        case rel => exact ⟨k + 1, by omega, by first | rw [HP.out] | go_num⟩
        case measure => (try rw [HP.out]); simp only [intOf]; omega
    · have i1 : ¬ (k : Int) < 64 := by omega
      have HK := Lib.hid (show k = Lib.bitLen v by omega)
      go_wp2
      go_ret
      refine ⟨?_, rfl⟩
      rw [← HK.out]
      rfl
end Go.Proofs.Ytdedmmjmiakidaa
/- A slice literal of one histogram, of two. -/
namespace Go.Proofs.Ytdedmmjmiakidaa
open Go.RowKit
set_option linter.unusedVariables false

theorem fold_get (off : Nat) : ∀ (l : List Value) (n : Nat) (cs : Array Value) (k : Nat),
    ((l.zipIdx n).foldl (fun cs x => cs.setIfInBounds (off + x.2) x.1) cs)[k]? = if off + n ≤ k ∧ k < off + n + l.length ∧ k < cs.size then l[k - (off + n)]? else cs[k]?
  | [], n, cs, k => by simp; intro h1 h2; omega
  | v :: l, n, cs, k => by
    rw [List.zipIdx_cons, List.foldl_cons, fold_get off l (n + 1)]
    simp only [Array.size_setIfInBounds, List.length_cons]
    by_cases h1 : off + n = k
    · subst h1
      rw [if_neg (by omega)]
      by_cases h2 : off + n < cs.size
      · rw [if_pos (by omega), Array.getElem?_setIfInBounds_self_of_lt h2]; simp
      · rw [if_neg (by omega), Array.getElem?_eq_none (by simpa using h2), Array.getElem?_eq_none (by simpa using h2)]
    · rw [Array.getElem?_setIfInBounds_ne h1]
      by_cases h2 : off + (n + 1) ≤ k ∧ k < off + (n + 1) + l.length ∧ k < cs.size
      · rw [if_pos h2, if_pos (by omega)]
        obtain ⟨j, rfl⟩ : ∃ j, k = off + n + (j + 1) := ⟨k - (off + n + 1), by omega⟩
        rw [show off + n + (j + 1) - (off + (n + 1)) = j by omega, show off + n + (j + 1) - (off + n) = j + 1 by omega]
        simp
      · rw [if_neg h2, if_neg (by omega)]

theorem fold_arr (off : Nat) (vs : Array Value) (cs : Array Value) : (vs.zipIdx.foldl (fun cs x => cs.setIfInBounds (off + x.2) x.1) cs) = (vs.toList.zipIdx.foldl (fun cs x => cs.setIfInBounds (off + x.2) x.1) cs) := by
  rw [← Array.foldl_toList, Array.toList_zipIdx]

theorem bs_one (a z : Array Value) (ha : a.size = 67) (hz : z.size = 67) : a.zipIdx.foldl (fun cs x => cs.setIfInBounds (0 * 67 + x.2) x.1) z = a := by
  rw [fold_arr]
  apply Array.ext_getElem?
  intro k
  rw [fold_get]
  by_cases h : k < 67
  · rw [if_pos (by simp [ha, hz]; omega)]
    simp
  · rw [if_neg (by simp [ha, hz]; omega), Array.getElem?_eq_none (by omega), Array.getElem?_eq_none (by omega)]

theorem bs_two (a b z : Array Value) (ha : a.size = 67) (hb : b.size = 67) (hz : z.size = 134) : b.zipIdx.foldl (fun cs x => cs.setIfInBounds (1 * 67 + x.2) x.1) (a.zipIdx.foldl (fun cs x => cs.setIfInBounds (0 * 67 + x.2) x.1) z) = a ++ b := by
  rw [fold_arr, fold_arr]
  apply Array.ext_getElem?
  intro k
  have hs : ∀ (l : List (Value × Nat)) (cs : Array Value), (l.foldl (fun cs x => cs.setIfInBounds (0 * 67 + x.2) x.1) cs).size = cs.size := by
    intro l
    induction l with
    | nil => intro cs; rfl
    | cons x l ih => intro cs; rw [List.foldl_cons, ih]; simp
  rw [fold_get, fold_get, hs]
  by_cases h : k < 67
  · rw [if_neg (by omega), if_pos (by simp [ha, hz]; omega), Array.getElem?_append_left (by omega)]
    simp
  · by_cases h2 : k < 134
    · rw [if_pos (by simp [hb, hz]; omega), Array.getElem?_append_right (by omega), ha]
      simp
    · rw [if_neg (by simp [hb, hz]; omega), if_neg (by simp [ha, hz]; omega), Array.getElem?_eq_none (by omega), Array.getElem?_eq_none (by simp [ha, hb]; omega)]

theorem run_bs1 (w : World) (a : List Nat) (ha : a.length = 67) : (Instr.buildSlice 22 1 #[(0, .agg (uw a))]).run Try.prog w = .ok (.slice (some ⟨w.heap.size, 0, none⟩) 1 1) (w.alloc (.cells (uw a) 26)) := by
  obtain ⟨i0, h2, h3, h4, h5⟩ := info_parts info_hist
  have hs : (uw a).size = 67 := by rw [uw_size, ha]
  have hz : ((Value.agg (uw hzero)).cells).size = 67 := by simp [Value.cells, uw_size, hzero]
  unfold Instr.buildSlice
  simp only [Sem.run_bind, underlying, program, sizeOf, typeInfo, zeroValue]
  simp [Sem.run, bind, Sem.bind, pure, Try.underlying22, h2, h3, h4, Instr.fill, hs, Value.cells, newRow, newObj]
  have := bs_one (uw a) ((Array.range 67).map fun x => (uw hzero)[x % (uw hzero).size]!) hs (by simp)
  simp [hs] at this
  rw [this]
theorem run_bs2 (w : World) (a b : List Nat) (ha : a.length = 67) (hb : b.length = 67) : (Instr.buildSlice 22 2 #[(0, .agg (uw a)), (1, .agg (uw b))]).run Try.prog w = .ok (.slice (some ⟨w.heap.size, 0, none⟩) 2 2) (w.alloc (.cells (uw a ++ uw b) 26)) := by
  obtain ⟨i0, h2, h3, h4, h5⟩ := info_parts info_hist
  have hs : (uw a).size = 67 := by rw [uw_size, ha]
  have hsb : (uw b).size = 67 := by rw [uw_size, hb]
  have hq : ∀ (l : List (Value × Nat)) (cs : Array Value), (l.foldl (fun cs x => cs.setIfInBounds x.2 x.1) cs).size = cs.size := by
    intro l
    induction l with
    | nil => intro cs; rfl
    | cons x l ih => intro cs; rw [List.foldl_cons, ih]; simp
  have hq2 : ∀ (z : Array Value), (Array.foldl (fun cs x => cs.setIfInBounds x.2 x.1) z (uw a).zipIdx 0 67).size = z.size := by
    intro z
    have e : 67 = (uw a).zipIdx.size := by simp [hs]
    rw [e, ← Array.foldl_toList, hq]
  unfold Instr.buildSlice
  simp only [Sem.run_bind, underlying, program, sizeOf, typeInfo, zeroValue]
  simp [Sem.run, bind, Sem.bind, pure, Try.underlying22, h2, h3, h4, Instr.fill, hs, hsb, hq2, Value.cells, newRow, newObj]
  have := bs_two (uw a) (uw b) ((Array.range 134).map fun x => (uw hzero)[x % (uw hzero).size]!) hs hsb (by simp)
  simp [hs, hsb] at this
  rw [this]

theorem wpList_bs1 {ops : Array Oper} {rest : List Oper} {o : Oper} {a : Act} {w : World} {Q : Exit → Act → World → Prop} (hgd : o.guard = none) (x : Operand) (ho : o.op = .buildSlice 22 1 #[(0, x)])
    (u : List Nat) (hu : u.length = 67) (hx : a.eval x = .agg (uw u)) (h : wpList Try.prog ops Q rest (a.put o.dst (.slice (some ⟨w.heap.size, 0, none⟩) 1 1)) (w.alloc (.cells (uw u) 26))) : wpList Try.prog ops Q (o :: rest) a w :=
  wpList_plain hgd fun _ hK => by
    unfold Oper.wp execOp
    simp only [ho, List.map_toArray, List.map_cons, List.map_nil, hx]
    simp [run_bs1 w u hu]
    exact hK _ _ h
theorem wpList_bs2 {ops : Array Oper} {rest : List Oper} {o : Oper} {a : Act} {w : World} {Q : Exit → Act → World → Prop} (hgd : o.guard = none) (x y : Operand) (ho : o.op = .buildSlice 22 2 #[(0, x), (1, y)])
    (u v : List Nat) (hu : u.length = 67) (hv : v.length = 67) (hx : a.eval x = .agg (uw u)) (hy : a.eval y = .agg (uw v)) (h : wpList Try.prog ops Q rest (a.put o.dst (.slice (some ⟨w.heap.size, 0, none⟩) 2 2)) (w.alloc (.cells (uw u ++ uw v) 26))) : wpList Try.prog ops Q (o :: rest) a w :=
  wpList_plain hgd fun _ hK => by
    unfold Oper.wp execOp
    simp only [ho, List.map_toArray, List.map_cons, List.map_nil, hx, hy]
    simp [run_bs2 w u v hu hv]
    exact hK _ _ h
theorem still_load_h67 {o : Oper} {a : Act} {w : World} {K : Act → Prop} (x : Operand) (ho : o.op = .load 26 x)
    (b off : Nat) (hx : a.eval x = .pointer (some ⟨b, off, none⟩)) (m : List Nat) (hlen : m.length = 67) (hr : w.rangeAt b off (uw m).toList) (hk : K (a.put o.dst (.agg (uw m)))) : o.still Try.prog a w K := by
  have h := run_loadVar_mid (P := Try.prog) w b off 26 (uw m).toList _ hr Try.underlying26 rfl (by rw [Array.length_toList, uw_size, hlen, size_h67])
  unfold Oper.still execOp
  simp only [ho, hx, Instr.loadAt, Instr.sureAddr, Sem.run_bind, Sem.run_pure, Result.andThen_ok, h]
  exact ⟨rfl, hk⟩
theorem Row.range {w : World} {b T : Nat} {c : Array Value} (h : Row w b c T) : w.rangeAt b 0 c.toList := fun i v hv => by
  rw [Nat.zero_add, h.cell i]
  simpa using hv
theorem hisL_of_own {w : World} {base g n c : Nat} {f : Nat → List Nat} (hown : w.ownsRow base 26 67 (.slice (some ⟨g, 0, none⟩) n c) n (flatH f n)) (hl : ∀ j, j < n → (f j).length = 67) (hlt : ∀ j, j < n → ∀ x ∈ f j, x < 18446744073709551616) : HisL g 0 n f w := by
  have hc := hown.cells (g := g) rfl
  refine ⟨fun j hj i v hv => ?_, hl, hlt, fun _ => (hown.lt g rfl).2⟩
  have hi : i < 67 := by
    have := (List.getElem?_eq_some_iff.1 hv).1
    simpa [uw, hl j hj] using this
  have := hc (j * 67 + i) v (by rw [flatH_get f n hl j i hj hi]; exact hv)
  rw [add_plain'] at this
  rw [show 0 + j * 67 + i = 0 + (j * 67 + i) by omega]
  exact this
theorem hisL_two {w : World} {g : Nat} {u v : List Nat} (hu : u.length = 67) (hv : v.length = 67) (hul : ∀ x ∈ u, x < 18446744073709551616) (hvl : ∀ x ∈ v, x < 18446744073709551616) (hr : Row w g (uw u ++ uw v) 26) : HisL g 0 2 (fun j => if j = 0 then u else v) w := by
  refine ⟨fun j hj i z hz => ?_, fun j hj => ?_, fun j hj => ?_, fun _ => hr.lt⟩
  · have hi : i < 67 := by
      have := (List.getElem?_eq_some_iff.1 hz).1
      split at this <;> simp_all [uw]
    rw [hr.cell]
    rcases (by omega : j = 0 ∨ j = 1) with rfl | rfl
    · simp only [if_true] at hz
      rw [Array.getElem?_append_left (by rw [uw_size]; omega)]
      simpa using hz
    · simp only [Nat.one_ne_zero, if_false] at hz
      rw [Array.getElem?_append_right (by rw [uw_size]; omega), uw_size, hu]
      simpa [show 0 + 1 * 67 + i - 67 = i by omega] using hz
  · split <;> assumption
  · split <;> assumption
end Go.Proofs.Ytdedmmjmiakidaa
/- Plain words: patchbaylaw11.settled, walked alone: true where shards and histogram are what all numbers come to. No condition. -/
namespace Go.Proofs.Ytdedmmjmiakidaa
open Go.RowKit
set_option linter.unusedVariables false
set_option linter.unusedSimpArgs false
theorem come_max (m : List Nat) (v : Nat) (hm : m.length = 67) : come m v = ((m.set (Lib.bitLen v) ((m.getD (Lib.bitLen v) 0 + 1) % 18446744073709551616)).set 65 ((m.getD 65 0 + v) % 18446744073709551616)).set 66 (max (m.getD 66 0) v) ∨ 66 ≤ Lib.bitLen v := by
  by_cases hb : 66 ≤ Lib.bitLen v
  · exact .inr hb
  refine .inl ?_
  unfold come
  dsimp only
  split
  · rename_i h
    rw [Nat.max_eq_left h]
    symm
    refine ext67 _ _ (by simp [hm]) (by simp [hm]) fun i hi => ?_
    rw [getD_set _ _ _ _ (by simp [hm]; omega)]
    split
    · rename_i e
      subst e
      rw [getD_set _ _ _ _ (by simp [hm]), if_neg (by omega), getD_set _ _ _ _ (by omega), if_neg (by omega)]
    · rfl
  · rename_i h
    rw [Nat.max_eq_right (by omega)]
theorem wpList_load_w67 {ops : Array Oper} {rest : List Oper} {o : Oper} {a : Act} {w : World} {Q : Exit → Act → World → Prop} (hw : Region.wanted o (yielded ops a.tmps) = true) (x : Operand) (ho : o.op = .load 26 x)
    (b : Nat) {T : TypeId} (hx : a.eval x = .pointer (some ⟨b, 0, none⟩)) (m : List Nat) (hlen : m.length = 67) (hr : Row w b (uw m) T) (h : wpList Try.prog ops Q rest (a.put o.dst (.agg (uw m))) w) : wpList Try.prog ops Q (o :: rest) a w :=
  wpList_step fun K hK => by
    rw [if_pos hw]
    exact wp_load_h67 x ho b 0 hx m hlen hr.range (hK _ _ h)
theorem cell67 {w : World} {b : Nat} {m : List Nat} {T : TypeId} (h : Row w b (uw m) T) (i : Nat) (hi : i < m.length) : w.cell? ⟨b, i, none⟩ = some (.int .u64 ((m.getD i 0 : Nat) : Int)) := by
  rw [h.cell, uw_get _ _ hi]
  simp [hi]
set_option maxRecDepth 100000 in
set_option maxHeartbeats 3200000 in
theorem settled_c (P T A H n : Nat) (s : List Nat) (m g cap : Nat) (Z : Nat → List Nat) (A2 : Nat → Option Addr) (C2 : Nat → Nat) (w : World) (hP : Row w P (prow T H n) 115) (hT : Tal T A s w) (hH : His H (hspec (cat Z m)) w) (hZ : RowsOwn g m Z A2 C2 w) (hm6 : m ≤ 6) (hn : s.length = n)
    (hs : wsum s = hspecAt (cat Z m) 65) :
    Calls Try.prog 29 #[.pointer (some ⟨P, 0, none⟩), .slice (some ⟨g, 0, none⟩) m cap] w fun e w' => e = .returned (.bool true) ∧ Sm (fun _ => False) w w' := by
  subst hn
  have HP := Lib.hid hP
  have HT := Lib.hid hT
  have HH := Lib.hid hH
  have HZ := Lib.hid hZ
  have HS := Lib.hid hs
  clear hP hT hH hZ hs
  go_enter Try.func29, Try.ntmps29
  go_wp2
  rw [zero_ah]
  obtain ⟨W, hW⟩ : ∃ W, W = w.heap.size := ⟨_, rfl⟩
  have R0 : Hid (Row (w.alloc (.cells (uw (List.replicate 67 0)) 26)) W (uw (List.replicate 67 0)) 26) := Lib.hid (by rw [hW]; exact Row.new w _ _)
  have S0 : Hid (Sm (fun k => w.heap.size ≤ k) w (w.alloc (.cells (uw (List.replicate 67 0)) 26))) := Lib.hid ((Sm.refl _ _).alloc _)
  obtain ⟨w0, hw0⟩ : ∃ w0, w0 = w.alloc (.cells (uw (List.replicate 67 0)) 26) := ⟨_, rfl⟩
  rw [← hw0] at R0 S0 ⊢
  rw [← hW]
  have HW := Lib.hid hW
  clear hw0 hW
  go_loopw [6] (fun s6 wr => ∃ i : Nat, i ≤ m ∧ s6 = .int .i64 i ∧ Hid (Row wr W (uw (hspec (cat Z i))) 26) ∧ Hid (Sm (fun k => w.heap.size ≤ k) w wr)) (fun s6 _ => m - (intOf s6).toNat)
  case atStart => exact ⟨0, by omega, rfl, by rw [cat, hspec_nil]; exact R0, S0⟩
  case round =>
    clear R0 S0 w0
    obtain ⟨wo, rfl⟩ : ∃ wo : World, wo = wr := ⟨_, rfl⟩
    obtain ⟨i, hi, rfl, hR, hS⟩ := hrel
    by_cases hlt : i < m
    · have j1 : (i : Int) < (m : Int) := by omega
      have hp1 : wrap64 ((i : Int) + 1) = ((i + 1 : Nat) : Int) := by unfold wrap64; omega
      have HP1 := Lib.hid hp1
      clear hp1
      obtain ⟨L, hL9⟩ : ∃ L, L = (Z i).length := ⟨_, rfl⟩
      have hL40 : L ≤ 40 := by rw [hL9]; exact HZ.out.le i hlt
      have HLE := Lib.hid hL9
      clear hL9
      go_wp2
      go_loopw [7] (fun s7 wq => ∃ j : Nat, j ≤ L ∧ s7 = .int .i64 j ∧ Hid (Row wq W (uw (hspec (cat Z i ++ (Z i).take j))) 26) ∧ Hid (Sm (fun k => w.heap.size ≤ k) w wq)) (fun s7 _ => L - (intOf s7).toNat)
      case atStart => exact ⟨0, by omega, rfl, Lib.hid (by rw [List.take_zero, List.append_nil]; exact hR.out), hS⟩
      case round =>
        obtain ⟨j, hj, rfl, kR, kS⟩ := hrel
        have hr := HZ.out.sm (Sm.refl _ _) kS.out (fun b hb h => by omega)
        have e1 := hr.hd i hlt
        rw [← HLE.out] at e1
        by_cases hjl : j < L
        · have i1 : (j : Int) < (L : Int) := by omega
          have hp2 : wrap64 ((j : Int) + 1) = ((j + 1 : Nat) : Int) := by unfold wrap64; omega
          have HP2 := Lib.hid hp2
          clear hp2
          have hjZ : j < (Z i).length := by rw [← HLE.out]; exact hjl
          obtain ⟨b, o, hA, -, -⟩ := hr.dat i hlt j hjZ
          obtain ⟨x, hx⟩ : ∃ x, x = (Z i).getD j 0 := ⟨_, rfl⟩
          have hxl : x < 18446744073709551616 := by
            rw [hx]
            refine hr.lt i hlt _ ?_
            simp [List.getD, hjZ]
          have e2 := hr.look hlt hjZ hA
          rw [← hx, ← HLE.out] at e2
          clear e1
          obtain ⟨e1, e2⟩ := e2
          obtain ⟨M, hM⟩ : ∃ M, M = hspec (cat Z i ++ (Z i).take j) := ⟨_, rfl⟩
          have hMl : M.length = 67 := by rw [hM, hspec_len]
          have hM2 : hspec (cat Z i ++ (Z i).take (j + 1)) = come M x := by rw [hM, come_spec _ _ hxl, take_snoc' _ _ hjZ, ← hx, List.append_assoc]
          have HM2 := Lib.hid hM2
          rw [← hM] at kR
          obtain ⟨k, hk⟩ : ∃ k, k = Lib.bitLen x := ⟨_, rfl⟩
          have hk64 : k ≤ 64 := by rw [hk]; exact bitLen_le 64 x hxl (by decide)
          have HK := Lib.hid hk
          have HB := Lib.hid (bits_c x hxl)
          clear hM hM2 hx hk hr hA hjZ
          obtain ⟨x9, hx9⟩ : ∃ y, y = M.getD k 0 := ⟨_, rfl⟩
          have c9 := cell67 kR.out k (by omega)
          rw [← hx9] at c9
          have f9 := kR.out.free k
          obtain ⟨y9, hy9⟩ : ∃ y, y = (x9 + 1) % 18446744073709551616 := ⟨_, rfl⟩
          have q9 : IntKind.u64.wrap ((x9 : Int) + 1) = (y9 : Int) := by rw [hy9, IntKind.wrap_u64]; omega
          have k0 : (0 : Int) ≤ (k : Int) := by omega
          have k1 : (k : Int) < 65 := by omega
          have HX9 := Lib.hid hx9
          have HY9 := Lib.hid hy9
          clear hx9 hy9
          go_upto_region 10 with (first | (refine (HB.out _).mono ?_; rintro e w1 ⟨rfl, rfl⟩; rw [← HK.out]) | fail)
          have n1 : Hid (Row (wr.setCell ⟨W, k, none⟩ (.int .u64 (y9 : Int))) W (uw (M.set k y9)) 26) := Lib.hid (by rw [← uw_set]; exact kR.out.set k _)
          have n2 : Hid (Sm (fun k => w.heap.size ≤ k) w (wr.setCell ⟨W, k, none⟩ (.int .u64 (y9 : Int)))) := Lib.hid (kS.out.setCell (by rw [← HW.out]; exact Nat.le_refl _) _)
          obtain ⟨w3, hw3⟩ : ∃ w3, w3 = wr.setCell ⟨W, k, none⟩ (.int .u64 (y9 : Int)) := ⟨_, rfl⟩
          rw [← hw3] at n1 n2 ⊢
          clear hw3 c9 f9 q9 kR kS e1 e2 HB k0 k1
          obtain ⟨x10, hx10⟩ : ∃ y, y = M.getD 65 0 := ⟨_, rfl⟩
          have c10 := cell67 n1.out 65 (by simp [hMl])
          rw [getD_set _ _ _ _ (by omega), if_neg (by omega), ← hx10] at c10
          have f10 := n1.out.free 65
          obtain ⟨y10, hy10⟩ : ∃ y, y = (x10 + x) % 18446744073709551616 := ⟨_, rfl⟩
          have q10 : IntKind.u64.wrap ((x10 : Int) + (x : Int)) = (y10 : Int) := by rw [hy10, IntKind.wrap_u64]; omega
          have HX10 := Lib.hid hx10
          have HY10 := Lib.hid hy10
          clear hx10 hy10
          go_upto_region 11 with fail
          have n3 : Hid (Row (w3.setCell ⟨W, 65, none⟩ (.int .u64 (y10 : Int))) W (uw ((M.set k y9).set 65 y10)) 26) := Lib.hid (by rw [← uw_set]; exact n1.out.set 65 _)
          have n4 : Hid (Sm (fun k => w.heap.size ≤ k) w (w3.setCell ⟨W, 65, none⟩ (.int .u64 (y10 : Int)))) := Lib.hid (n2.out.setCell (by rw [← HW.out]; exact Nat.le_refl _) _)
          obtain ⟨w4, hw4⟩ : ∃ w4, w4 = w3.setCell ⟨W, 65, none⟩ (.int .u64 (y10 : Int)) := ⟨_, rfl⟩
          rw [← hw4] at n3 n4 ⊢
          clear hw4 c10 f10 q10 n1 n2
          obtain ⟨x11, hx11⟩ : ∃ y, y = M.getD 66 0 := ⟨_, rfl⟩
          have c11 := cell67 n3.out 66 (by simp [hMl])
          rw [getD_set _ _ _ _ (by simp; omega), if_neg (by omega), getD_set _ _ _ _ (by omega), if_neg (by omega), ← hx11] at c11
          have f11 := n3.out.free 66
          obtain ⟨y11, hy11⟩ : ∃ y, y = max x11 x := ⟨_, rfl⟩
          have q11 : (max (x11 : Int) (x : Int)) = (y11 : Int) := by omega
          have HX11 := Lib.hid hx11
          have HY11 := Lib.hid hy11
          clear hx11 hy11
          go_wp2_with fail
          have n5 : Hid (Row (w4.setCell ⟨W, 66, none⟩ (.int .u64 (y11 : Int))) W (uw (((M.set k y9).set 65 y10).set 66 y11)) 26) := Lib.hid (by rw [← uw_set]; exact n3.out.set 66 _)
          have n6 : Hid (Sm (fun k => w.heap.size ≤ k) w (w4.setCell ⟨W, 66, none⟩ (.int .u64 (y11 : Int)))) := Lib.hid (n4.out.setCell (by rw [← HW.out]; exact Nat.le_refl _) _)
          have hcm : hspec (cat Z i ++ (Z i).take (j + 1)) = ((M.set k y9).set 65 y10).set 66 y11 := by
            rw [HM2.out]
            rcases come_max M x hMl with h | h
            · rw [h, ← HK.out, HY9.out, HX9.out, HY10.out, HX10.out, HY11.out, HX11.out]
            · rw [← HK.out] at h; omega
          have HCM := Lib.hid hcm
          clear hcm q11 c11 f11
          go_roundw
          case rel => exact ⟨j + 1, by omega, by first | rw [HP2.out] | go_num, by rw [HCM.out]; exact n5, n6⟩
          case measure => (try rw [HP2.out]); simp only [intOf]; omega
        · have hjj : j = L := by omega
          subst hjj
          have i1 : ¬ (j : Int) < (j : Int) := by omega
          have n1 : Hid (Row wr W (uw (hspec (cat Z (i + 1)))) 26) := Lib.hid (by
            have := kR.out
            rw [HLE.out, List.take_length] at this
            exact this)
          clear kR
          go_wp2
          go_roundw
          case rel => exact ⟨i + 1, by omega, by first | rw [HP1.out] | go_num, n1, kS⟩
          case measure => (try rw [HP1.out]); simp only [intOf]; omega
    · have hii : i = m := by omega
      subst hii
      have j1 : ¬ (i : Int) < (i : Int) := by omega
      have hsw := Lib.hid (fun b (hb : b < w.heap.size) => (show ¬ w.heap.size ≤ b by omega))
      have hP1 := Lib.hid (HP.out.sm hS.out (hsw.out _ HP.out.lt))
      have hT1 := Lib.hid (HT.out.sm hS.out (hsw.out _ HT.out.rT.lt) (hsw.out _ HT.out.rA.lt))
      have hH1 := Lib.hid (HH.out.sm hS.out (hsw.out _ HH.out.r.lt))
      have c1 := hP1.out.cell 0
      unfold prow at c1
      go_wp2_with fail
      clear c1
      refine (tsum_c T A s wo hT1.out).mono ?_
      rintro e w1 ⟨rfl, hs1⟩
      have hP2 := Lib.hid (hP1.out.sm hs1 (fun h => h))
      have hT2 := Lib.hid (hT1.out.sm hs1 (fun h => h) (fun h => h))
      have hH2 := Lib.hid (hH1.out.sm hs1 (fun h => h))
      have hR2 := Lib.hid (hR.out.sm hs1 (fun h => h))
      have hS2 := Lib.hid (hS.out.trans (hs1.mono (fun _ h => h.elim)))
      clear hP1 hT1 hH1 hR hS hs1
      have c1 := hP2.out.cell 0
      unfold prow at c1
      go_wp2_with fail
      clear c1
      refine (tparts_c T A s w1 hT2.out).mono ?_
      rintro e w2 ⟨O, rfl, ho, hs2, hO⟩
      have hO3 := Lib.hid ho
      have hP3 := Lib.hid (hP2.out.sm hs2 (fun h => h))
      have hH3 := Lib.hid (hH2.out.sm hs2 (fun h => h))
      have hR3 := Lib.hid (hR2.out.sm hs2 (fun h => h))
      have hS3 := Lib.hid (hS2.out.trans (hs2.mono (fun _ h => h.elim)))
      clear hP2 hT2 hH2 hR2 hS2 hs2 ho hO
      have c1 := hP3.out.cell 1
      unfold prow at c1
      go_wp2_with fail
      clear c1
      refine (hget_c H _ w2 hH3.out).mono ?_
      rintro e w3 ⟨rfl, hs3⟩
      have hO4 := Lib.hid (hO3.out.sm hs3 (fun h => h))
      have hP4 := Lib.hid (hP3.out.sm hs3 (fun h => h))
      have hR4 := Lib.hid (hR3.out.sm hs3 (fun h => h))
      have hS4 := Lib.hid (hS3.out.trans (hs3.mono (fun _ h => h.elim)))
      clear hP3 hH3 hR3 hS3 hs3 hO3
      obtain ⟨u, hu⟩ : ∃ u, u = hspec (cat Z i) := ⟨_, rfl⟩
      have hul : u.length = 67 := by rw [hu, hspec_len]
      have hum : ∀ x ∈ u, x < 18446744073709551616 := by rw [hu]; exact hspec_lt _ (cat_lt Z i (fun r hr => HZ.out.lt r hr))
      have hus : u.getD 65 0 = wsum s := by rw [hu, hspec_get _ _ (by decide), HS.out]
      rw [← hu] at hR4 ⊢
      have HU := Lib.hid hu
      have HUM := Lib.hid hum
      have HUS := Lib.hid hus
      clear hu hum hus
      go_upto_region 15 with (refine wpList_store_new67 rfl (.tmp 13) (.tmp 81) rfl (by simp [Act.eval, Act.put]) u (by simp [Act.eval, Act.put]) hul ?_)
      obtain ⟨D, hD⟩ : ∃ D, D = w3.heap.size := ⟨_, rfl⟩
      have hR5 := Lib.hid (hR4.out.alloc (.cells (uw u) 26))
      have hP5 := Lib.hid (hP4.out.alloc (.cells (uw u) 26))
      have hO5 := Lib.hid (hO4.out.alloc (.cells (uw u) 26))
      have hD5 : Hid (Row (w3.alloc (.cells (uw u) 26)) D (uw u) 26) := Lib.hid (by rw [hD]; exact Row.new w3 _ _)
      have hS5 := Lib.hid (hS4.out.alloc (.cells (uw u) 26))
      rw [← hD]
      clear hD hR4 hP4 hO4 hS4 wo w1 w2
      obtain ⟨w4, hw4⟩ : ∃ w4, w4 = w3.alloc (.cells (uw u) 26) := ⟨_, rfl⟩
      rw [← hw4] at hR5 hP5 hO5 hD5 hS5 ⊢
      clear hw4
      have hsl : s.length ≤ 64 := by have := HT.out.le; omega
      go_wp2
      go_loop [15, 16] (fun s15 s16 => ∃ k : Nat, k ≤ s.length ∧ s16 = .int .i64 k ∧ s15 = .int .u64 (wsum (s.take k) : Nat)) (fun s15 s16 => s.length - (intOf s16).toNat)
      case atStart => exact ⟨0, by omega, rfl, rfl⟩
      case round =>
        obtain ⟨k, hk, rfl, rfl⟩ := hrel
        by_cases hlt : k < s.length
        · have i1 : (k : Int) < (s.length : Int) := by omega
          have hp : wrap64 ((k : Int) + 1) = ((k + 1 : Nat) : Int) := by unfold wrap64; omega
          have HPK := Lib.hid hp
          clear hp
          have hc : w4.cell? ⟨O, k, none⟩ = some (.int .u64 (s[k] : Nat)) := (hO5.out.cell k).trans (uw_get s k hlt)
          have hw : IntKind.u64.wrap ((wsum (s.take k) : Nat) + (s[k] : Nat) : Int) = ((wsum (s.take (k + 1)) : Nat) : Int) := by
            rw [wsum_succ s k hlt, IntKind.wrap_u64]; omega
          go_wp2
          go_round
          case rel => exact ⟨k + 1, by omega, by first | rw [HPK.out] | go_num, rfl⟩
          case measure => (try rw [HPK.out]); simp only [intOf]; omega
        · have hkk : k = s.length := by omega
          subst hkk
          rw [List.take_length]
          have i1 : ¬ (s.length : Int) < (s.length : Int) := by omega
          obtain ⟨S, hSS⟩ : ∃ S, S = wsum s := ⟨_, rfl⟩
          rw [← hSS]
          have c65 := cell67 hR5.out 65 (by omega)
          rw [HUS.out, ← hSS] at c65
          have c2 := hP5.out.cell 2
          unfold prow at c2
          have HSS := Lib.hid hSS
          clear hSS
          have heq : ∀ w, (Op.equalIn 10000 26 (.agg (uw u)) (.agg (uw u))).run Try.prog w = .ok true w := fun w => by
            rw [eq_hist u u hul hul HUM.out HUM.out w]; simp
          go_wp2_with (first
            | refine wpList_load_w67 (by rfl) (.tmp 13) rfl D (by simp [Act.eval, Act.put]) u hul hD5.out ?_
            | refine wpList_load_w67 (by rfl) (.tmp 5) rfl W (by simp [Act.eval, Act.put]) u hul hR5.out ?_)
          go_ret
          exact ⟨rfl, (show Sm (fun _ => False) w w4 from ⟨hS5.out.os, hS5.out.tape, hS5.out.output, hS5.out.size, fun b hb _ => hS5.out.block b hb (by omega)⟩)⟩
end Go.Proofs.Ytdedmmjmiakidaa
/- Plain words: threads that count, played by any order. No condition. -/
namespace Go.Proofs.Ytdedmmjmiakidaa
open Go.Conc Go.RowKit
open Go.ConcN (sumTo upd sumTo_upd upd_ne upd_same sumTo_congr)
section
variable {rows : List (List Nat)} {n B T A H : Nat} {Z : Kept}
theorem cnt_next (p : TPos × CC) (a : TSt) (u : Unit) : (cntK B T A H n rows Z).core.next p (a, u) = (((cstep rows n p a).1, u), (cstep rows n p a).2) := by
  obtain ⟨p, c⟩ := p
  show (cntK B T A H n rows Z).after c (p.exec a) u = _
  unfold cstep Client.after
  generalize p.exec a = d
  obtain ⟨a', q | r⟩ := d
  · rfl
  · rfl
theorem startF_map {Y : Core} (l : List (Option Y.Pc)) (a : Y.St) (tr : List Turned) : ∀ ps : List (Option Y.Pc), startF (l.map fun q (σ : Y.St) => (σ, q)) ⟨a, ps, tr⟩ = ⟨a, ps ++ l, tr⟩ := by
  induction l with
  | nil => intro ps; simp [startF]
  | cons q l ih => intro ps; simp only [List.map_cons, startF]; rw [ih]; simp
/-- Where the threads stand at first. -/
def cntStart (rows : List (List Nat)) (n : Nat) : List (Option (TPos × CC)) := (List.range rows.length).map fun k => cntNext rows n k 0
def zeroT (n : Nat) : TSt := ⟨List.replicate n 0, List.replicate 67 0⟩
theorem start_pg (k : Nat) (hk : k < rows.length) : pgOf rows k ((cntStart rows n).getD k none) = ⟨0, 0, 0, 0⟩ := by
  have e : (cntStart rows n).getD k none = cntNext rows n k 0 := by simp [cntStart, List.getD_eq_getElem?_getD, hk]
  rw [e]
  unfold cntNext
  split
  · rfl
  · simp only [pgOf, Pg.mk.injEq]; omega
theorem sumTo_zero : ∀ N : Nat, sumTo N (fun _ => 0) = 0
  | 0 => rfl
  | N + 1 => by show sumTo N _ + 0 = 0; rw [sumTo_zero N]
theorem maxTo_zero : ∀ N : Nat, maxTo N (fun _ => 0) = 0
  | 0 => rfl
  | N + 1 => by unfold maxTo; rw [maxTo_zero N]; rfl
theorem rep_getD (n j : Nat) : (List.replicate n 0).getD j 0 = 0 := by
  simp only [List.getD_eq_getElem?_getD, List.getElem?_replicate]
  split <;> rfl
theorem start_inv : CInv rows n (zeroT n) (cntStart rows n) := by
  refine ⟨by simp [cntStart], fun k p hk => ?_, ⟨by simp [zeroT], by simp [zeroT], fun j hj => ?_, fun b hb => ?_, ?_, ?_⟩⟩
  · have hl := (List.getElem?_eq_some_iff.1 hk).1
    simp only [cntStart, List.getElem?_map] at hk
    rw [List.getElem?_range (by simpa [cntStart] using hl)] at hk
    obtain rfl := Option.some.inj hk
    exact next_ok
  · rw [show (zeroT n).s.getD j 0 = 0 from rep_getD n j, sumTo_congr (g := fun _ => 0) fun k hk => ?_, sumTo_zero]
    simp only [start_pg k hk]
    split <;> rfl
  · rw [show (zeroT n).h.getD b 0 = 0 from rep_getD 67 b, sumTo_congr (g := fun _ => 0) fun k hk => ?_, sumTo_zero]
    simp only [start_pg k hk]
    rfl
  · rw [show (zeroT n).h.getD 65 0 = 0 from rep_getD 67 65, sumTo_congr (g := fun _ => 0) fun k hk => ?_, sumTo_zero]
    simp only [start_pg k hk]
    rfl
  · rw [show (zeroT n).h.getD 66 0 = 0 from rep_getD 67 66, maxTo_congr (g := fun _ => 0) fun k hk => ?_, maxTo_zero]
    simp only [start_pg k hk]
    rfl
theorem start_cost (cur : Nat) (k : Nat) : costOf rows cur k (cntNext rows n k 0) ≤ 40 * (rowOf rows k).length := by
  unfold cntNext
  split
  · simp only [costOf]; omega
  · simp [costOf]
/-- All numbers have come. -/
structure Done (rows : List (List Nat)) (n : Nat) (a : TSt) : Prop where
  sl : a.s.length = n
  hl : a.h.length = 67
  s : ∀ j, j < n → a.s.getD j 0 = sumTo rows.length (fun k => if k % n = j then (rowOf rows k).sum else 0) % 18446744073709551616
  c : ∀ b, b < 65 → a.h.getD b 0 = sumTo rows.length (fun k => cntB b (rowOf rows k)) % 18446744073709551616
  t : a.h.getD 65 0 = sumTo rows.length (fun k => (rowOf rows k).sum) % 18446744073709551616
  m : a.h.getD 66 0 = maxTo rows.length (fun k => mxL (rowOf rows k))
/-- Threads that count, by any order: they end, and all has come. -/
theorem cnt_play (hn : 0 < n) (hr : rows.length ≤ 16) (hl : ∀ r ∈ rows, r.length ≤ 10) (hv : ∀ r ∈ rows, ∀ x ∈ r, x < 18446744073709551616) (order : List Int) :
    let σ := playF (Y := (cntK B T A H n rows Z).core) ((cntStart rows n).map fun q σ => (σ, q)) order (zeroT n, ())
    (∀ p ∈ σ.ps, p = none) ∧ Done rows n σ.a.1 := by
  have F : Falls (Y := (cntK B T A H n rows Z).core) (fun σ => CInv rows n σ.a.1 σ.ps) (fun σ => cost rows σ.a.1 σ.ps) := ⟨fun σ i pc h hi => by
    obtain ⟨⟨a, u⟩, ps, tr⟩ := σ
    have h : CInv rows n a ps := h
    have hi : ps[i]? = some (some pc) := hi
    have e := cnt_next (rows := rows) (n := n) (B := B) (T := T) (A := A) (H := H) (Z := Z) pc a u
    have q := h.step hn hr hv hi
    unfold PSt.turn
    simp only [e]
    exact q⟩
  have e := startF_map (Y := (cntK B T A H n rows Z).core) (cntStart rows n) (zeroT n, ()) [] []
  have hc : cost rows (zeroT n) (cntStart rows n) ≤ 16384 := by
    have h1 : ∀ N, N ≤ rows.length → sumTo N (fun k => costOf rows ((zeroT n).h.getD 66 0) k ((cntStart rows n).getD k none)) ≤ 400 * N := fun N => by
      induction N with
      | zero => intro _; exact Nat.le_refl _
      | succ N ih =>
        intro hN
        have h2 := ih (by omega)
        have h3 : (cntStart rows n).getD N none = cntNext rows n N 0 := by simp [cntStart, List.getD_eq_getElem?_getD, show N < rows.length by omega]
        have h4 := start_cost (rows := rows) (n := n) ((zeroT n).h.getD 66 0) N
        have h5 : (rowOf rows N).length ≤ 10 := by
          have hN' : N < rows.length := by omega
          have : rowOf rows N = rows[N] := by simp [rowOf, List.getD_eq_getElem?_getD, hN']
          rw [this]
          exact hl _ (List.getElem_mem hN')
        show sumTo N _ + costOf rows _ N _ ≤ 400 * (N + 1)
        rw [h3]
        omega
    have := h1 rows.length (Nat.le_refl _)
    unfold cost
    omega
  obtain ⟨h1, h2⟩ := play_ends F (starts := (cntStart rows n).map fun q σ => (σ, q)) (order := order) (a := (zeroT n, ())) (by rw [e]; exact start_inv) (by rw [e]; exact hc)
  refine ⟨h2, ?_⟩
  have hi : CInv rows n _ _ := h1.inv
  have hp : ∀ k, pgOf rows k ((playF (Y := (cntK B T A H n rows Z).core) ((cntStart rows n).map fun q σ => (σ, q)) order (zeroT n, ())).ps.getD k none) = ⟨(rowOf rows k).length, (rowOf rows k).length, (rowOf rows k).length, (rowOf rows k).length⟩ := fun k => by
    have : (playF (Y := (cntK B T A H n rows Z).core) ((cntStart rows n).map fun q σ => (σ, q)) order (zeroT n, ())).ps.getD k none = none := by
      rw [List.getD_eq_getElem?_getD]
      cases hk : (playF (Y := (cntK B T A H n rows Z).core) ((cntStart rows n).map fun q σ => (σ, q)) order (zeroT n, ())).ps[k]? with
      | none => rfl
      | some p => exact h2 p (List.mem_of_getElem? hk)
    rw [this]
    rfl
  have hh := Eq.mp (congrArg (Held rows n _) (funext hp)) hi.held
  refine ⟨hh.sl, hh.hl, fun j hj => ?_, fun b hb => ?_, ?_, ?_⟩
  · rw [hh.s j hj]
    congr 1
    refine sumTo_congr fun k _ => ?_
    simp only [List.take_length]
  · rw [hh.c b hb]
    congr 1
    refine sumTo_congr fun k _ => ?_
    simp only [List.take_length]
  · rw [hh.t]
    congr 1
    refine sumTo_congr fun k _ => ?_
    simp only [List.take_length]
  · rw [hh.m]
    refine maxTo_congr fun k _ => ?_
    simp only [List.take_length]
end
end Go.Proofs.Ytdedmmjmiakidaa
/- Plain words: a counting thread's drawn regions. No condition. -/
namespace Go.Proofs.Ytdedmmjmiakidaa
open Go.Conc Go.RowKit
section
variable {ops : Array Oper} {base t : Array Value} {val : Nat → Value} {listed : Array Bool} {s : Nat}
def noDst (ops : Array Oper) (s : Nat) : Bool := (List.range ops.size).all fun j => dstOf ops j != some s
theorem FrD.ground (h : FrD ops base val listed t) (hd : noDst ops s = true) : t.getD s undef = base.getD s undef := h.low fun j hj => by
  have lt : j < ops.size := by
    unfold dstOf at hj
    by_cases e : j < ops.size
    · exact e
    · rw [Array.getElem?_eq_none (by omega)] at hj; cases hj
  have := List.all_eq_true.1 hd j (List.mem_range.2 lt)
  rw [hj] at this
  simp at this
theorem getD_false {i : Nat} (h : listed.getD i true = false) : listed.getD i false = false := by
  have := getD_low h
  rw [Array.getD_eq_getD_getElem?] at h ⊢
  rw [Array.getElem?_eq_getElem this] at h ⊢
  exact h
theorem FrD.put' {i : Nat} {d : Option Nat} {v : Value} (h : FrD ops base val listed t) (ha : ApartD ops base.size) (hi : i < listed.size) (hd : dstOf ops i = d) (hv : val i = v) : FrD ops base val (listed.setIfInBounds i true) ((⟨t, []⟩ : Act).put d v).tmps := by
  subst hd hv
  exact h.put ha hi
/-- One operation waits for another. -/
def needs (ops : Array Oper) (j i : Nat) : Bool := match ops[j]? with
  | some o => o.after.any fun e => e.on == i && Region.binds .any e
  | none => false
theorem Closed.need {i j : Nat} (h : Closed .any ops listed) (hn : needs ops j i = true) (hl : listed.getD j false = true) : listed.getD i false = true := by
  unfold needs at hn
  cases ho : ops[j]? with
  | none => rw [ho] at hn; cases hn
  | some o =>
    rw [ho] at hn
    obtain ⟨q, hq, h2⟩ := Array.any_eq_true.1 hn
    have he := Array.getElem_mem hq
    obtain ⟨e, hee⟩ : ∃ e, e = o.after[q] := ⟨_, rfl⟩
    rw [← hee] at he h2
    simp only [Bool.and_eq_true, beq_iff_eq] at h2
    rw [← h2.1]
    exact h j o ho hl e he h2.2
theorem getD_setNe {i j : Nat} (hi : i < listed.size) (h : j ≠ i) : (listed.setIfInBounds i true).getD j false = listed.getD j false := by
  rw [getD_setT _ _ _ _ hi, if_neg h]
theorem getD_setEq {i : Nat} (hi : i < listed.size) : (listed.setIfInBounds i true).getD i false = true := by
  rw [getD_setT _ _ _ _ hi, if_pos rfl]
theorem FrD.yield {j : Nat} {b : Bool} (h : FrD ops base val listed t) (hl : listed.getD j false = true) (hd : dstOf ops j = some s) (hv : val j = .bool b) : yielded ops t j = some b := by
  unfold yielded
  unfold dstOf at hd
  rw [hd]
  show (match t[s]? with | some (.bool b) => some b | _ => none) = _
  rw [h.on j s hl hd, hv]
theorem FrD.congr {val' : Nat → Value} (h : FrD ops base val listed t) (he : ∀ j, listed.getD j false = true → val j = val' j) : FrD ops base val' listed t :=
  ⟨h.size, fun j s hl hd => by rw [← he j hl]; exact h.on j s hl hd, h.off⟩
end
section
variable {L : CLay} {T H n : Nat} {rows : List (List Nat)} {u : World} {k i eb eo : Nat}
theorem crow_at (h : CMem L T H n rows u) (hk : k < rows.length) (hi : i < (rowOf rows k).length) (hea : L.ea k = some ⟨eb, eo, none⟩) : u.cell? ⟨eb, eo + i, none⟩ = some (.int .u64 ((rowOf rows k).getD i 0 : Nat)) := by
  obtain ⟨a, h1, h2, h3⟩ := h.row k hk i hi
  rw [hea] at h1
  obtain rfl := Option.some.inj h1
  exact h3
theorem bad_at (h : CMem L T H n rows u) (hk : k < 16) : u.cell? ⟨L.bad, k, none⟩ = some (.bool false) := by
  rw [h.bad.cell]
  simp [falses, hk]
theorem bad_same (h : CMem L T H n rows u) (hk : k < 16) (b : Nat) : (u.setCell ⟨L.bad, k, none⟩ (.bool false)).heap[b]? = u.heap[b]? := by
  by_cases e : b = L.bad
  · subst e
    have h1 := h.bad.set k (.bool false)
    have h2 := h.bad
    rw [show falses.setIfInBounds k (.bool false) = falses from by
      refine Array.ext_getElem? fun j => ?_
      simp only [falses, Array.getElem?_setIfInBounds, Array.getElem?_replicate, Array.size_replicate]
      split
      · rename_i e; subst e; simp [hk]
      · rfl] at h1
    unfold Row at h1 h2
    rw [h1, h2]
  · exact Below.heap_setCell _ _ _ _ e
theorem crs_at (h : CMem L T H n rows u) (hk : k < rows.length) (hea : L.ea k = some ⟨eb, eo, none⟩) : u.cell? ⟨L.R, L.ro + k, none⟩ = some (.slice (some ⟨eb, eo, none⟩) (rowOf rows k).length (L.ec k)) := by
  have := h.rs k hk
  unfold CLay.row at this
  rw [hea] at this
  exact this
end
def v3 (L : CLay) (T H n : Nat) (rows : List (List Nat)) (s : SV) (eb eo : Nat) (k i v : Nat) (x : Nat) : Nat → Value
  | 0 => .pointer (some ⟨L.P, 0, none⟩)
  | 1 => .pointer (some ⟨L.P, 0, none⟩)
  | 2 => .pointer (some ⟨L.P, 0, none⟩)
  | 3 => .pointer (some ⟨T, 0, none⟩)
  | 4 => seatGate s
  | 5 => .int .i64 k
  | 6 => .pointer (some ⟨L.P, 0, none⟩)
  | 7 => .pointer (some ⟨L.P, 0, none⟩)
  | 8 => .pointer (some ⟨L.P, 2, none⟩)
  | 9 => .int .i64 n
  | 10 => .int .i64 (k % n : Nat)
  | 11 => .slice (some ⟨L.R, L.ro, none⟩) rows.length L.rc
  | 12 => .int .i64 k
  | 13 => .pointer (some ⟨L.R, L.ro + k, none⟩)
  | 14 => .slice (some ⟨eb, eo, none⟩) (rowOf rows k).length (L.ec k)
  | 15 => .int .i64 i
  | 16 => .pointer (some ⟨eb, eo + i, none⟩)
  | 17 => .int .u64 v
  | 18 => .tuple #[.int .u64 x, .int .i64 0]
  | 19 => .tuple #[.int .u64 x, .int .i64 0]
  | 20 => .int .u64 x
  | 21 => .int .i64 0
  | 22 => .int .u64 x
  | 23 => .int .i64 0
  | _ => undef

def v4 (L : CLay) (T H n : Nat) (rows : List (List Nat)) (s : SV) (eb eo : Nat) (k i v : Nat) (x : Nat) : Nat → Value
  | 0 => .pointer (some ⟨L.P, 0, none⟩)
  | 1 => .pointer (some ⟨L.P, 0, none⟩)
  | 2 => .pointer (some ⟨L.P, 1, none⟩)
  | 3 => .pointer (some ⟨H, 0, none⟩)
  | 4 => seatGate s
  | 5 => .slice (some ⟨L.R, L.ro, none⟩) rows.length L.rc
  | 6 => .int .i64 k
  | 7 => .pointer (some ⟨L.R, L.ro + k, none⟩)
  | 8 => .slice (some ⟨eb, eo, none⟩) (rowOf rows k).length (L.ec k)
  | 9 => .int .i64 i
  | 10 => .pointer (some ⟨eb, eo + i, none⟩)
  | 11 => .int .u64 v
  | 12 => .int .i64 0
  | 13 => .int .i64 0
  | _ => undef

def v5 (L : CLay) (T H n : Nat) (rows : List (List Nat)) (s : SV) (eb eo : Nat) (k i v : Nat) (x : Nat) : Nat → Value
  | 0 => .pointer (some ⟨L.bad, 0, none⟩)
  | 1 => .int .i64 k
  | 2 => .pointer (some ⟨L.bad, 0, none⟩)
  | 3 => .int .i64 k
  | 4 => .pointer (some ⟨L.bad, 0, none⟩)
  | 5 => .pointer (some ⟨L.bad, k, none⟩)
  | 6 => .bool false
  | 7 => .bool false
  | 8 => .int .i64 0
  | 9 => .bool false
  | 10 => .bool false
  | 11 => .bool false
  | 12 => .int .i64 0
  | 13 => .bool false
  | 14 => .bool false
  | 15 => .pointer (some ⟨L.bad, 0, none⟩)
  | 16 => .pointer (some ⟨L.bad, k, none⟩)
  | 17 => undef
  | _ => undef

theorem c3_cong {L : CLay} {T H n : Nat} {rows : List (List Nat)} {s : SV} {eb eo k i v x x' : Nat} {listed : Array Bool} (hs : listed.size = 24) (hc : Closed .any c3ops listed) (hl : listed.getD 18 false = false) : ∀ j, listed.getD j false = true → v3 L T H n rows s eb eo k i v x j = v3 L T H n rows s eb eo k i v x' j := by
  intro j hj
  have n19 : listed.getD 19 false = false := by
    cases e : listed.getD 19 false with
    | false => rfl
    | true => have := hc.need (by kernel_rfl : needs c3ops 19 18 = true) e; rw [hl] at this; cases this
  have n20 : listed.getD 20 false = false := by
    cases e : listed.getD 20 false with
    | false => rfl
    | true => have := hc.need (by kernel_rfl : needs c3ops 20 19 = true) e; rw [n19] at this; cases this
  have n21 : listed.getD 21 false = false := by
    cases e : listed.getD 21 false with
    | false => rfl
    | true => have := hc.need (by kernel_rfl : needs c3ops 21 19 = true) e; rw [n19] at this; cases this
  have n22 : listed.getD 22 false = false := by
    cases e : listed.getD 22 false with
    | false => rfl
    | true => have := hc.need (by kernel_rfl : needs c3ops 22 20 = true) e; rw [n20] at this; cases this
  have n23 : listed.getD 23 false = false := by
    cases e : listed.getD 23 false with
    | false => rfl
    | true => have := hc.need (by kernel_rfl : needs c3ops 23 21 = true) e; rw [n21] at this; cases this
  rcases (show j = 0 ∨ j = 1 ∨ j = 2 ∨ j = 3 ∨ j = 4 ∨ j = 5 ∨ j = 6 ∨ j = 7 ∨ j = 8 ∨ j = 9 ∨ j = 10 ∨ j = 11 ∨ j = 12 ∨ j = 13 ∨ j = 14 ∨ j = 15 ∨ j = 16 ∨ j = 17 ∨ j = 18 ∨ j = 19 ∨ j = 20 ∨ j = 21 ∨ j = 22 ∨ j = 23 ∨ 24 ≤ j by omega) with rfl | rfl | rfl | rfl | rfl | rfl | rfl | rfl | rfl | rfl | rfl | rfl | rfl | rfl | rfl | rfl | rfl | rfl | rfl | rfl | rfl | rfl | rfl | rfl | h
  · rfl
  · rfl
  · rfl
  · rfl
  · rfl
  · rfl
  · rfl
  · rfl
  · rfl
  · rfl
  · rfl
  · rfl
  · rfl
  · rfl
  · rfl
  · rfl
  · rfl
  · rfl
  · rw [hl] at hj; cases hj
  · rw [n19] at hj; cases hj
  · rw [n20] at hj; cases hj
  · rw [n21] at hj; cases hj
  · rw [n22] at hj; cases hj
  · rw [n23] at hj; cases hj
  · rw [Array.getD_eq_getD_getElem?, Array.getElem?_eq_none (by omega)] at hj; cases hj

theorem c4_cong {L : CLay} {T H n : Nat} {rows : List (List Nat)} {s : SV} {eb eo k i v x x' : Nat} {listed : Array Bool} (hs : listed.size = 14) (hc : Closed .any c4ops listed) (hl : listed.getD 12 false = false) : ∀ j, listed.getD j false = true → v4 L T H n rows s eb eo k i v x j = v4 L T H n rows s eb eo k i v x' j := by
  intro j hj
  have n13 : listed.getD 13 false = false := by
    cases e : listed.getD 13 false with
    | false => rfl
    | true => have := hc.need (by kernel_rfl : needs c4ops 13 12 = true) e; rw [hl] at this; cases this
  rcases (show j = 0 ∨ j = 1 ∨ j = 2 ∨ j = 3 ∨ j = 4 ∨ j = 5 ∨ j = 6 ∨ j = 7 ∨ j = 8 ∨ j = 9 ∨ j = 10 ∨ j = 11 ∨ j = 12 ∨ j = 13 ∨ 14 ≤ j by omega) with rfl | rfl | rfl | rfl | rfl | rfl | rfl | rfl | rfl | rfl | rfl | rfl | rfl | rfl | h
  · rfl
  · rfl
  · rfl
  · rfl
  · rfl
  · rfl
  · rfl
  · rfl
  · rfl
  · rfl
  · rfl
  · rfl
  · rw [hl] at hj; cases hj
  · rw [n13] at hj; cases hj
  · rw [Array.getD_eq_getD_getElem?, Array.getElem?_eq_none (by omega)] at hj; cases hj

section
variable {L : CLay} {B T A H n : Nat} {rows : List (List Nat)} {k i eb eo v : Nat} {Wg : Nat} {s : SV}
abbrev cK (L : CLay) (B T A H n : Nat) (rows : List (List Nat)) : Client (talJob T A H n) := cntK B T A H n rows (L.kept T H n rows)
variable {m : TIx (cK L B T A H n rows)} {a : TSt} {w : World} {f : Nat → Value}
set_option maxRecDepth 100000 in
set_option maxHeartbeats 8000000 in
theorem c3_reg (hn : 0 < n) (hn64 : n ≤ 64) (h16 : rows.length ≤ 16) (hk : k < rows.length) (hi : i < (rowOf rows k).length) (hil : (rowOf rows k).length ≤ 1000) (hv : v = (rowOf rows k).getD i 0) (hv64 : v < 18446744073709551616) (hea : L.ea k = some ⟨eb, eo, none⟩) {c : CC} (h : TK (cK L B T A H n rows) Wg s m a () ((a, ()), some (TPos.add (k % n) v, c)) w)
    {Q : TIx (cK L B T A H n rows) → Exit → Array Value → World → Prop}
    (hq : ∀ m' a' (x : Nat) w', TK (cK L B T A H n rows) Wg s m' a' () (cntFin rows n c (.num x) (a', ())) w' → Q m' .normal (allPut c3ops #[seatGate s, .pointer (some ⟨L.rb, 0, none⟩), .pointer (some ⟨L.kb k, 0, none⟩), .pointer (some ⟨L.pb, 0, none⟩), .pointer (some ⟨L.xb, 0, none⟩), f 5, .int .i64 i, f 7, f 8, f 9, f 10, f 11, f 12, f 13, f 14, f 15, f 16, f 17, f 18, f 19, f 20, f 21, f 22, f 23, f 24, f 25, f 26, f 27, f 28, f 29, f 30, f 31, f 32, f 33, f 34, f 35, f 36, f 37, f 38, f 39, f 40, f 41, f 42, f 43, f 44, f 45, f 46, f 47, f 48, f 49, f 50, f 51, f 52, f 53, f 54, f 55, f 56, f 57, f 58, f 59, f 60, f 61, f 62, f 63, f 64, f 65, f 66, f 67, f 68, f 69, f 70] (v3 L T H n rows s eb eo k i v x) 24) w') :
    cps (envT (cK L B T A H n rows).core.spec Wg (WgL Wg) s) (.region 3 c3ops true) Q m #[seatGate s, .pointer (some ⟨L.rb, 0, none⟩), .pointer (some ⟨L.kb k, 0, none⟩), .pointer (some ⟨L.pb, 0, none⟩), .pointer (some ⟨L.xb, 0, none⟩), f 5, .int .i64 i, f 7, f 8, f 9, f 10, f 11, f 12, f 13, f 14, f 15, f 16, f 17, f 18, f 19, f 20, f 21, f 22, f 23, f 24, f 25, f 26, f 27, f 28, f 29, f 30, f 31, f 32, f 33, f 34, f 35, f 36, f 37, f 38, f 39, f 40, f 41, f 42, f 43, f 44, f 45, f 46, f 47, f 48, f 49, f 50, f 51, f 52, f 53, f 54, f 55, f 56, f 57, f 58, f 59, f 60, f 61, f 62, f 63, f 64, f 65, f 66, f 67, f 68, f 69, f 70] w := by
  have O := envT_ok (cK L B T A H n rows).core.spec Wg (WgL Wg) s
  have apt := c3_apart
  have hs24 := c3_size
  have k0 : (0 : Int) ≤ (k : Int) := by omega
  have k1 : (k : Int) < (rows.length : Int) := by omega
  have i00 : (0 : Int) ≤ (i : Int) := by omega
  have i1 : (i : Int) < ((rowOf rows k).length : Int) := by omega
  have n0 : ((n : Int) == 0) = false := by rw [beq_eq_false_iff_ne]; omega
  have nz : ¬ n = 0 := by omega
  have kn : (k : Int).tmod (n : Int) = ((k % n : Nat) : Int) := by rw [Int.tmod_eq_emod_of_nonneg (by omega)]; rfl
  refine cps_ord O (by kernel_rfl) c3_up (fun listed m' t w' => ∃ (x : Nat) (a1 : TSt) (F1 : (TSt × Unit) × Option (TPos × CC)), FrD c3ops #[seatGate s, .pointer (some ⟨L.rb, 0, none⟩), .pointer (some ⟨L.kb k, 0, none⟩), .pointer (some ⟨L.pb, 0, none⟩), .pointer (some ⟨L.xb, 0, none⟩), f 5, .int .i64 i, f 7, f 8, f 9, f 10, f 11, f 12, f 13, f 14, f 15, f 16, f 17, f 18, f 19, f 20, f 21, f 22, f 23, f 24, f 25, f 26, f 27, f 28, f 29, f 30, f 31, f 32, f 33, f 34, f 35, f 36, f 37, f 38, f 39, f 40, f 41, f 42, f 43, f 44, f 45, f 46, f 47, f 48, f 49, f 50, f 51, f 52, f 53, f 54, f 55, f 56, f 57, f 58, f 59, f 60, f 61, f 62, f 63, f 64, f 65, f 66, f 67, f 68, f 69, f 70] (v3 L T H n rows s eb eo k i v x) listed t ∧ TK (cK L B T A H n rows) Wg s m' a1 () F1 w' ∧ if listed.getD 18 false = true then F1 = cntFin rows n c (.num x) (a1, ()) else a1 = a ∧ F1 = ((a, ()), some (TPos.add (k % n) v, c))) ?_ ?_ ⟨0, a, _, FrD.start, h, by rw [if_neg (by rw [hs24]; decide)]; exact ⟨rfl, rfl⟩⟩
  · intro listed i0 o l m' t w' hsz ho hl hr hcl ⟨x, a1, F1, hF, hT, hD⟩ hk2
    have hlt := (Array.getElem?_eq_some_iff.1 ho).1
    rw [hs24] at hlt
    have hcase : i0 = 0 ∨ i0 = 1 ∨ i0 = 2 ∨ i0 = 3 ∨ i0 = 4 ∨ i0 = 5 ∨ i0 = 6 ∨ i0 = 7 ∨ i0 = 8 ∨ i0 = 9 ∨ i0 = 10 ∨ i0 = 11 ∨ i0 = 12 ∨ i0 = 13 ∨ i0 = 14 ∨ i0 = 15 ∨ i0 = 16 ∨ i0 = 17 ∨ i0 = 18 ∨ i0 = 19 ∨ i0 = 20 ∨ i0 = 21 ∨ i0 = 22 ∨ i0 = 23 := by omega
    have ho2 := ho
    simp only [c3ops, Try.f57, Option.getD_some] at ho2
    clear hq h
    rcases hcase with rfl | rfl | rfl | rfl | rfl | rfl | rfl | rfl | rfl | rfl | rfl | rfl | rfl | rfl | rfl | rfl | rfl | rfl | rfl | rfl | rfl | rfl | rfl | rfl
    · obtain rfl := Option.some.inj ho2
      clear ho2
      have e0 : t.getD 3 undef = .pointer (some ⟨L.pb, 0, none⟩) := hF.ground (by kernel_rfl)
      refine readTK hT (.pointer (some ⟨L.P, 0, none⟩)) ho (by kernel_rfl) rfl (fun u h1 h2 => ?_) fun w2 hT2 => hk2 _ _ _ ⟨x, a1, F1, hF.put' apt (getD_low hl) (show dstOf c3ops 0 = some 20 by kernel_rfl) rfl, hT2, by rw [getD_setNe (getD_low hl) (by decide)]; exact hD⟩
      have h2 : CMem L T H n rows u := h2
      have hm := h2.pb.cell 0
      simp only [execOp, Act.eval, e0]; go_simp
    · obtain rfl := Option.some.inj ho2
      clear ho2
      have e0 : t.getD 20 undef = .pointer (some ⟨L.P, 0, none⟩) := hF.get (hr ⟨0, .data⟩ (by simp) rfl) (by kernel_rfl)
      refine valE O rfl (.pointer (some ⟨L.P, 0, none⟩)) ho rfl (fun _ => ?_) (fun _ => ?_) (hk2 _ _ _ ⟨x, a1, F1, hF.put' apt (getD_low hl) (show dstOf c3ops 1 = some 21 by kernel_rfl) rfl, hT, by rw [getD_setNe (getD_low hl) (by decide)]; exact hD⟩)
      · simp [go_sem, execOp, Act.eval, *]
      · simp only [execOp, Act.eval, *]; go_simp
    · obtain rfl := Option.some.inj ho2
      clear ho2
      have e0 : t.getD 21 undef = .pointer (some ⟨L.P, 0, none⟩) := hF.get (hr ⟨1, .data⟩ (by simp) rfl) (by kernel_rfl)
      refine valE O rfl (.pointer (some ⟨L.P, 0, none⟩)) ho rfl (fun _ => ?_) (fun _ => ?_) (hk2 _ _ _ ⟨x, a1, F1, hF.put' apt (getD_low hl) (show dstOf c3ops 2 = some 22 by kernel_rfl) rfl, hT, by rw [getD_setNe (getD_low hl) (by decide)]; exact hD⟩)
      · simp [go_sem, execOp, Act.eval, *]
      · simp only [execOp, Act.eval, *]; go_simp
    · obtain rfl := Option.some.inj ho2
      clear ho2
      have e0 : t.getD 22 undef = .pointer (some ⟨L.P, 0, none⟩) := hF.get (hr ⟨2, .data⟩ (by simp) rfl) (by kernel_rfl)
      refine readTK hT (.pointer (some ⟨T, 0, none⟩)) ho (by kernel_rfl) rfl (fun u h1 h2 => ?_) fun w2 hT2 => hk2 _ _ _ ⟨x, a1, F1, hF.put' apt (getD_low hl) (show dstOf c3ops 3 = some 23 by kernel_rfl) rfl, hT2, by rw [getD_setNe (getD_low hl) (by decide)]; exact hD⟩
      have h2 : CMem L T H n rows u := h2
      have hm := h2.p.cell 0; unfold prow at hm
      simp only [execOp, Act.eval, e0]; go_simp
    · obtain rfl := Option.some.inj ho2
      clear ho2
      have e0 : t.getD 0 undef = seatGate s := hF.ground (by kernel_rfl)
      refine valE O rfl (seatGate s) ho rfl (fun _ => ?_) (fun _ => ?_) (hk2 _ _ _ ⟨x, a1, F1, hF.put' apt (getD_low hl) (show dstOf c3ops 4 = some 24 by kernel_rfl) rfl, hT, by rw [getD_setNe (getD_low hl) (by decide)]; exact hD⟩)
      · simp [go_sem, execOp, Act.eval, *]
      · simp only [execOp, Act.eval, *]; go_simp
    · obtain rfl := Option.some.inj ho2
      clear ho2
      have e0 : t.getD 2 undef = .pointer (some ⟨L.kb k, 0, none⟩) := hF.ground (by kernel_rfl)
      refine readTK hT (.int .i64 k) ho (by kernel_rfl) rfl (fun u h1 h2 => ?_) fun w2 hT2 => hk2 _ _ _ ⟨x, a1, F1, hF.put' apt (getD_low hl) (show dstOf c3ops 5 = some 25 by kernel_rfl) rfl, hT2, by rw [getD_setNe (getD_low hl) (by decide)]; exact hD⟩
      have h2 : CMem L T H n rows u := h2
      have hm := (h2.kb k hk).cell 0
      simp only [execOp, Act.eval, e0]; go_simp
    · obtain rfl := Option.some.inj ho2
      clear ho2
      have e0 : t.getD 3 undef = .pointer (some ⟨L.pb, 0, none⟩) := hF.ground (by kernel_rfl)
      refine readTK hT (.pointer (some ⟨L.P, 0, none⟩)) ho (by kernel_rfl) rfl (fun u h1 h2 => ?_) fun w2 hT2 => hk2 _ _ _ ⟨x, a1, F1, hF.put' apt (getD_low hl) (show dstOf c3ops 6 = some 26 by kernel_rfl) rfl, hT2, by rw [getD_setNe (getD_low hl) (by decide)]; exact hD⟩
      have h2 : CMem L T H n rows u := h2
      have hm := h2.pb.cell 0
      simp only [execOp, Act.eval, e0]; go_simp
    · obtain rfl := Option.some.inj ho2
      clear ho2
      have e0 : t.getD 26 undef = .pointer (some ⟨L.P, 0, none⟩) := hF.get (hr ⟨6, .data⟩ (by simp) rfl) (by kernel_rfl)
      refine valE O rfl (.pointer (some ⟨L.P, 0, none⟩)) ho rfl (fun _ => ?_) (fun _ => ?_) (hk2 _ _ _ ⟨x, a1, F1, hF.put' apt (getD_low hl) (show dstOf c3ops 7 = some 27 by kernel_rfl) rfl, hT, by rw [getD_setNe (getD_low hl) (by decide)]; exact hD⟩)
      · simp [go_sem, execOp, Act.eval, *]
      · simp only [execOp, Act.eval, *]; go_simp
    · obtain rfl := Option.some.inj ho2
      clear ho2
      have e0 : t.getD 27 undef = .pointer (some ⟨L.P, 0, none⟩) := hF.get (hr ⟨7, .data⟩ (by simp) rfl) (by kernel_rfl)
      refine valE O rfl (.pointer (some ⟨L.P, 2, none⟩)) ho rfl (fun _ => ?_) (fun _ => ?_) (hk2 _ _ _ ⟨x, a1, F1, hF.put' apt (getD_low hl) (show dstOf c3ops 8 = some 28 by kernel_rfl) rfl, hT, by rw [getD_setNe (getD_low hl) (by decide)]; exact hD⟩)
      · simp [go_sem, execOp, Act.eval, *]
      · simp only [execOp, Act.eval, *]; go_simp
    · obtain rfl := Option.some.inj ho2
      clear ho2
      have e0 : t.getD 28 undef = .pointer (some ⟨L.P, 2, none⟩) := hF.get (hr ⟨8, .data⟩ (by simp) rfl) (by kernel_rfl)
      refine readTK hT (.int .i64 n) ho (by kernel_rfl) rfl (fun u h1 h2 => ?_) fun w2 hT2 => hk2 _ _ _ ⟨x, a1, F1, hF.put' apt (getD_low hl) (show dstOf c3ops 9 = some 29 by kernel_rfl) rfl, hT2, by rw [getD_setNe (getD_low hl) (by decide)]; exact hD⟩
      have h2 : CMem L T H n rows u := h2
      have hm := h2.p.cell 2; unfold prow at hm
      simp only [execOp, Act.eval, e0]; go_simp
    · obtain rfl := Option.some.inj ho2
      clear ho2
      have e0 : t.getD 25 undef = .int .i64 k := hF.get (hr ⟨5, .data⟩ (by simp) rfl) (by kernel_rfl)
      have e1 : t.getD 29 undef = .int .i64 n := hF.get (hr ⟨9, .data⟩ (by simp) rfl) (by kernel_rfl)
      refine valE O rfl (.int .i64 (k % n : Nat)) ho rfl (fun _ => ?_) (fun _ => ?_) (hk2 _ _ _ ⟨x, a1, F1, hF.put' apt (getD_low hl) (show dstOf c3ops 10 = some 30 by kernel_rfl) rfl, hT, by rw [getD_setNe (getD_low hl) (by decide)]; exact hD⟩)
      · simp [go_sem, execOp, Act.eval, *]
      · simp only [execOp, Act.eval, *]; go_simp
    · obtain rfl := Option.some.inj ho2
      clear ho2
      have e0 : t.getD 1 undef = .pointer (some ⟨L.rb, 0, none⟩) := hF.ground (by kernel_rfl)
      refine readTK hT (.slice (some ⟨L.R, L.ro, none⟩) rows.length L.rc) ho (by kernel_rfl) rfl (fun u h1 h2 => ?_) fun w2 hT2 => hk2 _ _ _ ⟨x, a1, F1, hF.put' apt (getD_low hl) (show dstOf c3ops 11 = some 31 by kernel_rfl) rfl, hT2, by rw [getD_setNe (getD_low hl) (by decide)]; exact hD⟩
      have h2 : CMem L T H n rows u := h2
      have hm := h2.rb.cell 0; unfold CLay.rowsV at hm
      simp only [execOp, Act.eval, e0]; go_simp
    · obtain rfl := Option.some.inj ho2
      clear ho2
      have e0 : t.getD 2 undef = .pointer (some ⟨L.kb k, 0, none⟩) := hF.ground (by kernel_rfl)
      refine readTK hT (.int .i64 k) ho (by kernel_rfl) rfl (fun u h1 h2 => ?_) fun w2 hT2 => hk2 _ _ _ ⟨x, a1, F1, hF.put' apt (getD_low hl) (show dstOf c3ops 12 = some 32 by kernel_rfl) rfl, hT2, by rw [getD_setNe (getD_low hl) (by decide)]; exact hD⟩
      have h2 : CMem L T H n rows u := h2
      have hm := (h2.kb k hk).cell 0
      simp only [execOp, Act.eval, e0]; go_simp
    · obtain rfl := Option.some.inj ho2
      clear ho2
      have e0 : t.getD 31 undef = .slice (some ⟨L.R, L.ro, none⟩) rows.length L.rc := hF.get (hr ⟨11, .data⟩ (by simp) rfl) (by kernel_rfl)
      have e1 : t.getD 32 undef = .int .i64 k := hF.get (hr ⟨12, .data⟩ (by simp) rfl) (by kernel_rfl)
      refine valE O rfl (.pointer (some ⟨L.R, L.ro + k, none⟩)) ho rfl (fun _ => ?_) (fun _ => ?_) (hk2 _ _ _ ⟨x, a1, F1, hF.put' apt (getD_low hl) (show dstOf c3ops 13 = some 33 by kernel_rfl) rfl, hT, by rw [getD_setNe (getD_low hl) (by decide)]; exact hD⟩)
      · simp [go_sem, execOp, Act.eval, *]
      · simp only [execOp, Act.eval, *]; go_simp
    · obtain rfl := Option.some.inj ho2
      clear ho2
      have e0 : t.getD 33 undef = .pointer (some ⟨L.R, L.ro + k, none⟩) := hF.get (hr ⟨13, .data⟩ (by simp) rfl) (by kernel_rfl)
      refine readTK hT (.slice (some ⟨eb, eo, none⟩) (rowOf rows k).length (L.ec k)) ho (by kernel_rfl) rfl (fun u h1 h2 => ?_) fun w2 hT2 => hk2 _ _ _ ⟨x, a1, F1, hF.put' apt (getD_low hl) (show dstOf c3ops 14 = some 34 by kernel_rfl) rfl, hT2, by rw [getD_setNe (getD_low hl) (by decide)]; exact hD⟩
      have h2 : CMem L T H n rows u := h2
      have hm := crs_at h2 hk hea
      simp only [execOp, Act.eval, e0]; go_simp
    · obtain rfl := Option.some.inj ho2
      clear ho2
      have e0 : t.getD 6 undef = .int .i64 i := hF.ground (by kernel_rfl)
      refine valE O rfl (.int .i64 i) ho rfl (fun _ => ?_) (fun _ => ?_) (hk2 _ _ _ ⟨x, a1, F1, hF.put' apt (getD_low hl) (show dstOf c3ops 15 = some 35 by kernel_rfl) rfl, hT, by rw [getD_setNe (getD_low hl) (by decide)]; exact hD⟩)
      · simp [go_sem, execOp, Act.eval, *]
      · simp only [execOp, Act.eval, *]; go_simp
    · obtain rfl := Option.some.inj ho2
      clear ho2
      have e0 : t.getD 34 undef = .slice (some ⟨eb, eo, none⟩) (rowOf rows k).length (L.ec k) := hF.get (hr ⟨14, .data⟩ (by simp) rfl) (by kernel_rfl)
      have e1 : t.getD 35 undef = .int .i64 i := hF.get (hr ⟨15, .data⟩ (by simp) rfl) (by kernel_rfl)
      refine valE O rfl (.pointer (some ⟨eb, eo + i, none⟩)) ho rfl (fun _ => ?_) (fun _ => ?_) (hk2 _ _ _ ⟨x, a1, F1, hF.put' apt (getD_low hl) (show dstOf c3ops 16 = some 36 by kernel_rfl) rfl, hT, by rw [getD_setNe (getD_low hl) (by decide)]; exact hD⟩)
      · simp [go_sem, execOp, Act.eval, *]
      · simp only [execOp, Act.eval, *]; go_simp
    · obtain rfl := Option.some.inj ho2
      clear ho2
      have e0 : t.getD 36 undef = .pointer (some ⟨eb, eo + i, none⟩) := hF.get (hr ⟨16, .data⟩ (by simp) rfl) (by kernel_rfl)
      refine readTK hT (.int .u64 v) ho (by kernel_rfl) rfl (fun u h1 h2 => ?_) fun w2 hT2 => hk2 _ _ _ ⟨x, a1, F1, hF.put' apt (getD_low hl) (show dstOf c3ops 17 = some 37 by kernel_rfl) rfl, hT2, by rw [getD_setNe (getD_low hl) (by decide)]; exact hD⟩
      have h2 : CMem L T H n rows u := h2
      have hm := crow_at h2 hk hi hea; rw [← hv] at hm
      simp only [execOp, Act.eval, e0]; go_simp
    · obtain rfl := Option.some.inj ho2
      clear ho2
      have e0 : t.getD 23 undef = .pointer (some ⟨T, 0, none⟩) := hF.get (hr ⟨3, .data⟩ (by simp) rfl) (by kernel_rfl)
      have e1 : t.getD 24 undef = seatGate s := hF.get (hr ⟨4, .data⟩ (by simp) rfl) (by kernel_rfl)
      have e2 : t.getD 30 undef = .int .i64 (k % n : Nat) := hF.get (hr ⟨10, .data⟩ (by simp) rfl) (by kernel_rfl)
      have e3 : t.getD 37 undef = .int .u64 v := hF.get (hr ⟨17, .data⟩ (by simp) rfl) (by kernel_rfl)
      rw [getD_false hl, if_neg (by decide)] at hD
      obtain ⟨rfl, rfl⟩ := hD
      refine callE O rfl (f := 19) (vals := #[.pointer (some ⟨T, 0, none⟩), seatGate s, .int .i64 (k % n : Nat), .int .u64 v]) ho rfl rfl Try.func19 rfl rfl (by simp only [List.map_cons, List.map_nil, Act.eval, e0, e1, e2, e3]) ?_
      refine add_t (Nat.mod_lt _ hn) hT fun m2 a2 b2 x2 w2 hx2 h2 => ?_
      exact hk2 _ _ _ ⟨x2, a2, _, (hF.congr (c3_cong (hsz.trans hs24) hcl (getD_false hl))).put' apt (getD_low hl) (show dstOf c3ops 18 = some 38 by kernel_rfl) rfl, h2, by rw [getD_setEq (getD_low hl), if_pos rfl]; rfl⟩
    · obtain rfl := Option.some.inj ho2
      clear ho2
      have e0 : t.getD 38 undef = .tuple #[.int .u64 x, .int .i64 0] := hF.get (hr ⟨18, .data⟩ (by simp) rfl) (by kernel_rfl)
      refine valE O rfl (.tuple #[.int .u64 x, .int .i64 0]) ho rfl (fun _ => ?_) (fun _ => ?_) (hk2 _ _ _ ⟨x, a1, F1, hF.put' apt (getD_low hl) (show dstOf c3ops 19 = some 19 by kernel_rfl) rfl, hT, by rw [getD_setNe (getD_low hl) (by decide)]; exact hD⟩)
      · simp [go_sem, execOp, Act.eval, *]
      · simp only [execOp, Act.eval, *]; go_simp
    · obtain rfl := Option.some.inj ho2
      clear ho2
      have e0 : t.getD 19 undef = .tuple #[.int .u64 x, .int .i64 0] := hF.get (hr ⟨19, .data⟩ (by simp) rfl) (by kernel_rfl)
      refine valE O rfl (.int .u64 x) ho rfl (fun _ => ?_) (fun _ => ?_) (hk2 _ _ _ ⟨x, a1, F1, hF.put' apt (getD_low hl) (show dstOf c3ops 20 = some 39 by kernel_rfl) rfl, hT, by rw [getD_setNe (getD_low hl) (by decide)]; exact hD⟩)
      · simp [go_sem, execOp, Act.eval, *]
      · simp only [execOp, Act.eval, *]; go_simp
    · obtain rfl := Option.some.inj ho2
      clear ho2
      have e0 : t.getD 19 undef = .tuple #[.int .u64 x, .int .i64 0] := hF.get (hr ⟨19, .data⟩ (by simp) rfl) (by kernel_rfl)
      refine valE O rfl (.int .i64 0) ho rfl (fun _ => ?_) (fun _ => ?_) (hk2 _ _ _ ⟨x, a1, F1, hF.put' apt (getD_low hl) (show dstOf c3ops 21 = some 40 by kernel_rfl) rfl, hT, by rw [getD_setNe (getD_low hl) (by decide)]; exact hD⟩)
      · simp [go_sem, execOp, Act.eval, *]
      · simp only [execOp, Act.eval, *]; go_simp
    · obtain rfl := Option.some.inj ho2
      clear ho2
      have e0 : t.getD 39 undef = .int .u64 x := hF.get (hr ⟨20, .data⟩ (by simp) rfl) (by kernel_rfl)
      refine valE O rfl (.int .u64 x) ho rfl (fun _ => ?_) (fun _ => ?_) (hk2 _ _ _ ⟨x, a1, F1, hF.put' apt (getD_low hl) (show dstOf c3ops 22 = some 7 by kernel_rfl) rfl, hT, by rw [getD_setNe (getD_low hl) (by decide)]; exact hD⟩)
      · simp [go_sem, execOp, Act.eval, *]
      · simp only [execOp, Act.eval, *]; go_simp
    · obtain rfl := Option.some.inj ho2
      clear ho2
      have e0 : t.getD 40 undef = .int .i64 0 := hF.get (hr ⟨21, .data⟩ (by simp) rfl) (by kernel_rfl)
      refine valE O rfl (.int .i64 0) ho rfl (fun _ => ?_) (fun _ => ?_) (hk2 _ _ _ ⟨x, a1, F1, hF.put' apt (getD_low hl) (show dstOf c3ops 23 = some 8 by kernel_rfl) rfl, hT, by rw [getD_setNe (getD_low hl) (by decide)]; exact hD⟩)
      · simp [go_sem, execOp, Act.eval, *]
      · simp only [execOp, Act.eval, *]; go_simp
  · intro listed m' t w' hsz hall ⟨x, a1, F1, hF, hT, hD⟩
    rw [if_pos (by
      have := hall 18 (by rw [hs24]; decide)
      rw [Array.getD_eq_getD_getElem?] at this ⊢
      cases e : listed[18]? with
      | none => have := Array.getElem?_eq_none_iff.1 e; omega
      | some b => rw [e] at this; exact this)] at hD
    subst hD
    have := hF.all apt hsz hall
    rw [this, hs24]
    exact cpsR_nil O (hq _ a1 x _ hT)
set_option maxRecDepth 100000 in
set_option maxHeartbeats 8000000 in
theorem c4_reg (hn : 0 < n) (hn64 : n ≤ 64) (h16 : rows.length ≤ 16) (hk : k < rows.length) (hi : i < (rowOf rows k).length) (hil : (rowOf rows k).length ≤ 1000) (hv : v = (rowOf rows k).getD i 0) (hv64 : v < 18446744073709551616) (hea : L.ea k = some ⟨eb, eo, none⟩) {c : CC} (h : TK (cK L B T A H n rows) Wg s m a () ((a, ()), some (TPos.h1 v, c)) w)
    {Q : TIx (cK L B T A H n rows) → Exit → Array Value → World → Prop}
    (hq : ∀ m' a' w', TK (cK L B T A H n rows) Wg s m' a' () (cntFin rows n c .come (a', ())) w' → Q m' .normal (allPut c4ops #[seatGate s, .pointer (some ⟨L.rb, 0, none⟩), .pointer (some ⟨L.kb k, 0, none⟩), .pointer (some ⟨L.pb, 0, none⟩), .pointer (some ⟨L.xb, 0, none⟩), f 5, .int .i64 i, f 7, f 8, f 9, f 10, f 11, f 12, f 13, f 14, f 15, f 16, f 17, f 18, f 19, f 20, f 21, f 22, f 23, f 24, f 25, f 26, f 27, f 28, f 29, f 30, f 31, f 32, f 33, f 34, f 35, f 36, f 37, f 38, f 39, f 40, f 41, f 42, f 43, f 44, f 45, f 46, f 47, f 48, f 49, f 50, f 51, f 52, f 53, f 54, f 55, f 56, f 57, f 58, f 59, f 60, f 61, f 62, f 63, f 64, f 65, f 66, f 67, f 68, f 69, f 70] (v4 L T H n rows s eb eo k i v 0) 14) w') :
    cps (envT (cK L B T A H n rows).core.spec Wg (WgL Wg) s) (.region 4 c4ops true) Q m #[seatGate s, .pointer (some ⟨L.rb, 0, none⟩), .pointer (some ⟨L.kb k, 0, none⟩), .pointer (some ⟨L.pb, 0, none⟩), .pointer (some ⟨L.xb, 0, none⟩), f 5, .int .i64 i, f 7, f 8, f 9, f 10, f 11, f 12, f 13, f 14, f 15, f 16, f 17, f 18, f 19, f 20, f 21, f 22, f 23, f 24, f 25, f 26, f 27, f 28, f 29, f 30, f 31, f 32, f 33, f 34, f 35, f 36, f 37, f 38, f 39, f 40, f 41, f 42, f 43, f 44, f 45, f 46, f 47, f 48, f 49, f 50, f 51, f 52, f 53, f 54, f 55, f 56, f 57, f 58, f 59, f 60, f 61, f 62, f 63, f 64, f 65, f 66, f 67, f 68, f 69, f 70] w := by
  have O := envT_ok (cK L B T A H n rows).core.spec Wg (WgL Wg) s
  have apt := c4_apart
  have hs14 := c4_size
  have k0 : (0 : Int) ≤ (k : Int) := by omega
  have k1 : (k : Int) < (rows.length : Int) := by omega
  have i00 : (0 : Int) ≤ (i : Int) := by omega
  have i1 : (i : Int) < ((rowOf rows k).length : Int) := by omega
  have n0 : ((n : Int) == 0) = false := by rw [beq_eq_false_iff_ne]; omega
  have nz : ¬ n = 0 := by omega
  have kn : (k : Int).tmod (n : Int) = ((k % n : Nat) : Int) := by rw [Int.tmod_eq_emod_of_nonneg (by omega)]; rfl
  refine cps_ord O (by kernel_rfl) c4_up (fun listed m' t w' => ∃ (x : Nat) (a1 : TSt) (F1 : (TSt × Unit) × Option (TPos × CC)), FrD c4ops #[seatGate s, .pointer (some ⟨L.rb, 0, none⟩), .pointer (some ⟨L.kb k, 0, none⟩), .pointer (some ⟨L.pb, 0, none⟩), .pointer (some ⟨L.xb, 0, none⟩), f 5, .int .i64 i, f 7, f 8, f 9, f 10, f 11, f 12, f 13, f 14, f 15, f 16, f 17, f 18, f 19, f 20, f 21, f 22, f 23, f 24, f 25, f 26, f 27, f 28, f 29, f 30, f 31, f 32, f 33, f 34, f 35, f 36, f 37, f 38, f 39, f 40, f 41, f 42, f 43, f 44, f 45, f 46, f 47, f 48, f 49, f 50, f 51, f 52, f 53, f 54, f 55, f 56, f 57, f 58, f 59, f 60, f 61, f 62, f 63, f 64, f 65, f 66, f 67, f 68, f 69, f 70] (v4 L T H n rows s eb eo k i v 0) listed t ∧ TK (cK L B T A H n rows) Wg s m' a1 () F1 w' ∧ if listed.getD 12 false = true then F1 = cntFin rows n c .come (a1, ()) else a1 = a ∧ F1 = ((a, ()), some (TPos.h1 v, c))) ?_ ?_ ⟨0, a, _, FrD.start, h, by rw [if_neg (by rw [hs14]; decide)]; exact ⟨rfl, rfl⟩⟩
  · intro listed i0 o l m' t w' hsz ho hl hr hcl ⟨x, a1, F1, hF, hT, hD⟩ hk2
    have hlt := (Array.getElem?_eq_some_iff.1 ho).1
    rw [hs14] at hlt
    have hcase : i0 = 0 ∨ i0 = 1 ∨ i0 = 2 ∨ i0 = 3 ∨ i0 = 4 ∨ i0 = 5 ∨ i0 = 6 ∨ i0 = 7 ∨ i0 = 8 ∨ i0 = 9 ∨ i0 = 10 ∨ i0 = 11 ∨ i0 = 12 ∨ i0 = 13 := by omega
    have ho2 := ho
    simp only [c4ops, Try.f57, Option.getD_some] at ho2
    clear hq h
    rcases hcase with rfl | rfl | rfl | rfl | rfl | rfl | rfl | rfl | rfl | rfl | rfl | rfl | rfl | rfl
    · obtain rfl := Option.some.inj ho2
      clear ho2
      have e0 : t.getD 3 undef = .pointer (some ⟨L.pb, 0, none⟩) := hF.ground (by kernel_rfl)
      refine readTK hT (.pointer (some ⟨L.P, 0, none⟩)) ho (by kernel_rfl) rfl (fun u h1 h2 => ?_) fun w2 hT2 => hk2 _ _ _ ⟨x, a1, F1, hF.put' apt (getD_low hl) (show dstOf c4ops 0 = some 41 by kernel_rfl) rfl, hT2, by rw [getD_setNe (getD_low hl) (by decide)]; exact hD⟩
      have h2 : CMem L T H n rows u := h2
      have hm := h2.pb.cell 0
      simp only [execOp, Act.eval, e0]; go_simp
    · obtain rfl := Option.some.inj ho2
      clear ho2
      have e0 : t.getD 41 undef = .pointer (some ⟨L.P, 0, none⟩) := hF.get (hr ⟨0, .data⟩ (by simp) rfl) (by kernel_rfl)
      refine valE O rfl (.pointer (some ⟨L.P, 0, none⟩)) ho rfl (fun _ => ?_) (fun _ => ?_) (hk2 _ _ _ ⟨x, a1, F1, hF.put' apt (getD_low hl) (show dstOf c4ops 1 = some 42 by kernel_rfl) rfl, hT, by rw [getD_setNe (getD_low hl) (by decide)]; exact hD⟩)
      · simp [go_sem, execOp, Act.eval, *]
      · simp only [execOp, Act.eval, *]; go_simp
    · obtain rfl := Option.some.inj ho2
      clear ho2
      have e0 : t.getD 42 undef = .pointer (some ⟨L.P, 0, none⟩) := hF.get (hr ⟨1, .data⟩ (by simp) rfl) (by kernel_rfl)
      refine valE O rfl (.pointer (some ⟨L.P, 1, none⟩)) ho rfl (fun _ => ?_) (fun _ => ?_) (hk2 _ _ _ ⟨x, a1, F1, hF.put' apt (getD_low hl) (show dstOf c4ops 2 = some 43 by kernel_rfl) rfl, hT, by rw [getD_setNe (getD_low hl) (by decide)]; exact hD⟩)
      · simp [go_sem, execOp, Act.eval, *]
      · simp only [execOp, Act.eval, *]; go_simp
    · obtain rfl := Option.some.inj ho2
      clear ho2
      have e0 : t.getD 43 undef = .pointer (some ⟨L.P, 1, none⟩) := hF.get (hr ⟨2, .data⟩ (by simp) rfl) (by kernel_rfl)
      refine readTK hT (.pointer (some ⟨H, 0, none⟩)) ho (by kernel_rfl) rfl (fun u h1 h2 => ?_) fun w2 hT2 => hk2 _ _ _ ⟨x, a1, F1, hF.put' apt (getD_low hl) (show dstOf c4ops 3 = some 44 by kernel_rfl) rfl, hT2, by rw [getD_setNe (getD_low hl) (by decide)]; exact hD⟩
      have h2 : CMem L T H n rows u := h2
      have hm := h2.p.cell 1; unfold prow at hm
      simp only [execOp, Act.eval, e0]; go_simp
    · obtain rfl := Option.some.inj ho2
      clear ho2
      have e0 : t.getD 0 undef = seatGate s := hF.ground (by kernel_rfl)
      refine valE O rfl (seatGate s) ho rfl (fun _ => ?_) (fun _ => ?_) (hk2 _ _ _ ⟨x, a1, F1, hF.put' apt (getD_low hl) (show dstOf c4ops 4 = some 45 by kernel_rfl) rfl, hT, by rw [getD_setNe (getD_low hl) (by decide)]; exact hD⟩)
      · simp [go_sem, execOp, Act.eval, *]
      · simp only [execOp, Act.eval, *]; go_simp
    · obtain rfl := Option.some.inj ho2
      clear ho2
      have e0 : t.getD 1 undef = .pointer (some ⟨L.rb, 0, none⟩) := hF.ground (by kernel_rfl)
      refine readTK hT (.slice (some ⟨L.R, L.ro, none⟩) rows.length L.rc) ho (by kernel_rfl) rfl (fun u h1 h2 => ?_) fun w2 hT2 => hk2 _ _ _ ⟨x, a1, F1, hF.put' apt (getD_low hl) (show dstOf c4ops 5 = some 46 by kernel_rfl) rfl, hT2, by rw [getD_setNe (getD_low hl) (by decide)]; exact hD⟩
      have h2 : CMem L T H n rows u := h2
      have hm := h2.rb.cell 0; unfold CLay.rowsV at hm
      simp only [execOp, Act.eval, e0]; go_simp
    · obtain rfl := Option.some.inj ho2
      clear ho2
      have e0 : t.getD 2 undef = .pointer (some ⟨L.kb k, 0, none⟩) := hF.ground (by kernel_rfl)
      refine readTK hT (.int .i64 k) ho (by kernel_rfl) rfl (fun u h1 h2 => ?_) fun w2 hT2 => hk2 _ _ _ ⟨x, a1, F1, hF.put' apt (getD_low hl) (show dstOf c4ops 6 = some 47 by kernel_rfl) rfl, hT2, by rw [getD_setNe (getD_low hl) (by decide)]; exact hD⟩
      have h2 : CMem L T H n rows u := h2
      have hm := (h2.kb k hk).cell 0
      simp only [execOp, Act.eval, e0]; go_simp
    · obtain rfl := Option.some.inj ho2
      clear ho2
      have e0 : t.getD 46 undef = .slice (some ⟨L.R, L.ro, none⟩) rows.length L.rc := hF.get (hr ⟨5, .data⟩ (by simp) rfl) (by kernel_rfl)
      have e1 : t.getD 47 undef = .int .i64 k := hF.get (hr ⟨6, .data⟩ (by simp) rfl) (by kernel_rfl)
      refine valE O rfl (.pointer (some ⟨L.R, L.ro + k, none⟩)) ho rfl (fun _ => ?_) (fun _ => ?_) (hk2 _ _ _ ⟨x, a1, F1, hF.put' apt (getD_low hl) (show dstOf c4ops 7 = some 48 by kernel_rfl) rfl, hT, by rw [getD_setNe (getD_low hl) (by decide)]; exact hD⟩)
      · simp [go_sem, execOp, Act.eval, *]
      · simp only [execOp, Act.eval, *]; go_simp
    · obtain rfl := Option.some.inj ho2
      clear ho2
      have e0 : t.getD 48 undef = .pointer (some ⟨L.R, L.ro + k, none⟩) := hF.get (hr ⟨7, .data⟩ (by simp) rfl) (by kernel_rfl)
      refine readTK hT (.slice (some ⟨eb, eo, none⟩) (rowOf rows k).length (L.ec k)) ho (by kernel_rfl) rfl (fun u h1 h2 => ?_) fun w2 hT2 => hk2 _ _ _ ⟨x, a1, F1, hF.put' apt (getD_low hl) (show dstOf c4ops 8 = some 49 by kernel_rfl) rfl, hT2, by rw [getD_setNe (getD_low hl) (by decide)]; exact hD⟩
      have h2 : CMem L T H n rows u := h2
      have hm := crs_at h2 hk hea
      simp only [execOp, Act.eval, e0]; go_simp
    · obtain rfl := Option.some.inj ho2
      clear ho2
      have e0 : t.getD 6 undef = .int .i64 i := hF.ground (by kernel_rfl)
      refine valE O rfl (.int .i64 i) ho rfl (fun _ => ?_) (fun _ => ?_) (hk2 _ _ _ ⟨x, a1, F1, hF.put' apt (getD_low hl) (show dstOf c4ops 9 = some 50 by kernel_rfl) rfl, hT, by rw [getD_setNe (getD_low hl) (by decide)]; exact hD⟩)
      · simp [go_sem, execOp, Act.eval, *]
      · simp only [execOp, Act.eval, *]; go_simp
    · obtain rfl := Option.some.inj ho2
      clear ho2
      have e0 : t.getD 49 undef = .slice (some ⟨eb, eo, none⟩) (rowOf rows k).length (L.ec k) := hF.get (hr ⟨8, .data⟩ (by simp) rfl) (by kernel_rfl)
      have e1 : t.getD 50 undef = .int .i64 i := hF.get (hr ⟨9, .data⟩ (by simp) rfl) (by kernel_rfl)
      refine valE O rfl (.pointer (some ⟨eb, eo + i, none⟩)) ho rfl (fun _ => ?_) (fun _ => ?_) (hk2 _ _ _ ⟨x, a1, F1, hF.put' apt (getD_low hl) (show dstOf c4ops 10 = some 51 by kernel_rfl) rfl, hT, by rw [getD_setNe (getD_low hl) (by decide)]; exact hD⟩)
      · simp [go_sem, execOp, Act.eval, *]
      · simp only [execOp, Act.eval, *]; go_simp
    · obtain rfl := Option.some.inj ho2
      clear ho2
      have e0 : t.getD 51 undef = .pointer (some ⟨eb, eo + i, none⟩) := hF.get (hr ⟨10, .data⟩ (by simp) rfl) (by kernel_rfl)
      refine readTK hT (.int .u64 v) ho (by kernel_rfl) rfl (fun u h1 h2 => ?_) fun w2 hT2 => hk2 _ _ _ ⟨x, a1, F1, hF.put' apt (getD_low hl) (show dstOf c4ops 11 = some 52 by kernel_rfl) rfl, hT2, by rw [getD_setNe (getD_low hl) (by decide)]; exact hD⟩
      have h2 : CMem L T H n rows u := h2
      have hm := crow_at h2 hk hi hea; rw [← hv] at hm
      simp only [execOp, Act.eval, e0]; go_simp
    · obtain rfl := Option.some.inj ho2
      clear ho2
      have e0 : t.getD 44 undef = .pointer (some ⟨H, 0, none⟩) := hF.get (hr ⟨3, .data⟩ (by simp) rfl) (by kernel_rfl)
      have e1 : t.getD 45 undef = seatGate s := hF.get (hr ⟨4, .data⟩ (by simp) rfl) (by kernel_rfl)
      have e2 : t.getD 52 undef = .int .u64 v := hF.get (hr ⟨11, .data⟩ (by simp) rfl) (by kernel_rfl)
      rw [getD_false hl, if_neg (by decide)] at hD
      obtain ⟨rfl, rfl⟩ := hD
      refine callE O rfl (f := 17) (vals := #[.pointer (some ⟨H, 0, none⟩), seatGate s, .int .u64 v]) ho rfl rfl Try.func17 rfl rfl (by simp only [List.map_cons, List.map_nil, Act.eval, e0, e1, e2]) ?_
      refine come_t hv64 hT fun m2 a2 b2 w2 h2 => ?_
      exact hk2 _ _ _ ⟨x, a2, _, hF.put' apt (getD_low hl) (show dstOf c4ops 12 = some 53 by kernel_rfl) rfl, h2, by rw [getD_setEq (getD_low hl), if_pos rfl]; rfl⟩
    · obtain rfl := Option.some.inj ho2
      clear ho2
      have e0 : t.getD 53 undef = .int .i64 0 := hF.get (hr ⟨12, .data⟩ (by simp) rfl) (by kernel_rfl)
      refine valE O rfl (.int .i64 0) ho rfl (fun _ => ?_) (fun _ => ?_) (hk2 _ _ _ ⟨x, a1, F1, hF.put' apt (getD_low hl) (show dstOf c4ops 13 = some 9 by kernel_rfl) rfl, hT, by rw [getD_setNe (getD_low hl) (by decide)]; exact hD⟩)
      · simp [go_sem, execOp, Act.eval, *]
      · simp only [execOp, Act.eval, *]; go_simp
  · intro listed m' t w' hsz hall ⟨x, a1, F1, hF, hT, hD⟩
    rw [if_pos (by
      have := hall 12 (by rw [hs14]; decide)
      rw [Array.getD_eq_getD_getElem?] at this ⊢
      cases e : listed[12]? with
      | none => have := Array.getElem?_eq_none_iff.1 e; omega
      | some b => rw [e] at this; exact this)] at hD
    subst hD
    have := hF.all apt hsz hall
    rw [this, hs14]
    exact cpsR_nil O (hq _ a1 _ hT)
end
end Go.Proofs.Ytdedmmjmiakidaa
/- Plain words: a counting thread. No condition. -/
namespace Go.Proofs.Ytdedmmjmiakidaa
open Go.Conc Go.RowKit
/-- The third drawn region of a counting thread. -/
noncomputable def c5ops : Array Oper := match (Try.f57.body.getD .skip) with
  | .seq _ (.block _ (.loop (.seq _ (.seq (.block _ (.seq _ (.seq _ (.region _ ops _)))) _)))) => ops
  | _ => #[]
theorem c5_size : c5ops.size = 18 := by kernel_rfl
theorem c5_up : upward .any id c5ops = true := by kernel_rfl
theorem c5_apart : ApartD c5ops 71 := apart_of (by kernel_rfl)
section
variable {L : CLay} {B T A H n : Nat} {rows : List (List Nat)} {k i eb eo v x : Nat} {Wg : Nat} {s : SV}
variable {m : TIx (cK L B T A H n rows)} {a : TSt} {w : World} {f : Nat → Value}
set_option maxRecDepth 100000 in
set_option maxHeartbeats 8000000 in
theorem c5_reg (hn : 0 < n) (h16 : rows.length ≤ 16) (hk : k < rows.length) {F : (TSt × Unit) × Option (TPos × CC)} (h : TK (cK L B T A H n rows) Wg s m a () F w)
    {Q : TIx (cK L B T A H n rows) → Exit → Array Value → World → Prop}
    (hq : ∀ w', TK (cK L B T A H n rows) Wg s m a () F w' → Q m .normal (allPut c5ops #[seatGate s, .pointer (some ⟨L.rb, 0, none⟩), .pointer (some ⟨L.kb k, 0, none⟩), .pointer (some ⟨L.pb, 0, none⟩), .pointer (some ⟨L.xb, 0, none⟩), f 5, .int .i64 i, f 7, .int .i64 0, .int .i64 0, f 10, f 11, f 12, f 13, f 14, f 15, f 16, f 17, f 18, f 19, f 20, f 21, f 22, f 23, f 24, f 25, f 26, f 27, f 28, f 29, f 30, f 31, f 32, f 33, f 34, f 35, f 36, f 37, f 38, f 39, f 40, f 41, f 42, f 43, f 44, f 45, f 46, f 47, f 48, f 49, f 50, f 51, f 52, f 53, f 54, f 55, f 56, f 57, f 58, f 59, f 60, f 61, f 62, f 63, f 64, f 65, f 66, f 67, f 68, f 69, f 70] (v5 L T H n rows s eb eo k i v x) 18) w') :
    cps (envT (cK L B T A H n rows).core.spec Wg (WgL Wg) s) (.region 5 c5ops true) Q m #[seatGate s, .pointer (some ⟨L.rb, 0, none⟩), .pointer (some ⟨L.kb k, 0, none⟩), .pointer (some ⟨L.pb, 0, none⟩), .pointer (some ⟨L.xb, 0, none⟩), f 5, .int .i64 i, f 7, .int .i64 0, .int .i64 0, f 10, f 11, f 12, f 13, f 14, f 15, f 16, f 17, f 18, f 19, f 20, f 21, f 22, f 23, f 24, f 25, f 26, f 27, f 28, f 29, f 30, f 31, f 32, f 33, f 34, f 35, f 36, f 37, f 38, f 39, f 40, f 41, f 42, f 43, f 44, f 45, f 46, f 47, f 48, f 49, f 50, f 51, f 52, f 53, f 54, f 55, f 56, f 57, f 58, f 59, f 60, f 61, f 62, f 63, f 64, f 65, f 66, f 67, f 68, f 69, f 70] w := by
  have O := envT_ok (cK L B T A H n rows).core.spec Wg (WgL Wg) s
  have apt := c5_apart
  have hs18 := c5_size
  have k0 : (0 : Int) ≤ (k : Int) := by omega
  have k1 : (k : Int) < 16 := by omega
  refine cps_ord O (by kernel_rfl) c5_up (fun listed m' t w' => FrD c5ops #[seatGate s, .pointer (some ⟨L.rb, 0, none⟩), .pointer (some ⟨L.kb k, 0, none⟩), .pointer (some ⟨L.pb, 0, none⟩), .pointer (some ⟨L.xb, 0, none⟩), f 5, .int .i64 i, f 7, .int .i64 0, .int .i64 0, f 10, f 11, f 12, f 13, f 14, f 15, f 16, f 17, f 18, f 19, f 20, f 21, f 22, f 23, f 24, f 25, f 26, f 27, f 28, f 29, f 30, f 31, f 32, f 33, f 34, f 35, f 36, f 37, f 38, f 39, f 40, f 41, f 42, f 43, f 44, f 45, f 46, f 47, f 48, f 49, f 50, f 51, f 52, f 53, f 54, f 55, f 56, f 57, f 58, f 59, f 60, f 61, f 62, f 63, f 64, f 65, f 66, f 67, f 68, f 69, f 70] (v5 L T H n rows s eb eo k i v x) listed t ∧ m' = m ∧ TK (cK L B T A H n rows) Wg s m a () F w') ?_ ?_ ⟨FrD.start, rfl, h⟩
  · intro listed i0 o l m' t w' hsz ho hl hr hcl ⟨hF, hmm, hT⟩ hk2
    subst hmm
    have hk2 : ∀ t2 w2, (FrD c5ops #[seatGate s, .pointer (some ⟨L.rb, 0, none⟩), .pointer (some ⟨L.kb k, 0, none⟩), .pointer (some ⟨L.pb, 0, none⟩), .pointer (some ⟨L.xb, 0, none⟩), f 5, .int .i64 i, f 7, .int .i64 0, .int .i64 0, f 10, f 11, f 12, f 13, f 14, f 15, f 16, f 17, f 18, f 19, f 20, f 21, f 22, f 23, f 24, f 25, f 26, f 27, f 28, f 29, f 30, f 31, f 32, f 33, f 34, f 35, f 36, f 37, f 38, f 39, f 40, f 41, f 42, f 43, f 44, f 45, f 46, f 47, f 48, f 49, f 50, f 51, f 52, f 53, f 54, f 55, f 56, f 57, f 58, f 59, f 60, f 61, f 62, f 63, f 64, f 65, f 66, f 67, f 68, f 69, f 70] (v5 L T H n rows s eb eo k i v x) (listed.setIfInBounds i0 true) t2 ∧ TK (cK L B T A H n rows) Wg s m' a () F w2) → cpsR (envT (cK L B T A H n rows).core.spec Wg (WgL Wg) s) c5ops l (fun n t w => Q n .normal t w) m' t2 w2 := fun t2 w2 h => hk2 m' t2 w2 ⟨h.1, rfl, h.2⟩
    have hlt := (Array.getElem?_eq_some_iff.1 ho).1
    rw [hs18] at hlt
    have hcase : i0 = 0 ∨ i0 = 1 ∨ i0 = 2 ∨ i0 = 3 ∨ i0 = 4 ∨ i0 = 5 ∨ i0 = 6 ∨ i0 = 7 ∨ i0 = 8 ∨ i0 = 9 ∨ i0 = 10 ∨ i0 = 11 ∨ i0 = 12 ∨ i0 = 13 ∨ i0 = 14 ∨ i0 = 15 ∨ i0 = 16 ∨ i0 = 17 := by omega
    have ho2 := ho
    simp only [c5ops, Try.f57, Option.getD_some] at ho2
    clear hq h
    rcases hcase with rfl | rfl | rfl | rfl | rfl | rfl | rfl | rfl | rfl | rfl | rfl | rfl | rfl | rfl | rfl | rfl | rfl | rfl
    · obtain rfl := Option.some.inj ho2
      clear ho2
      have e0 : t.getD 4 undef = .pointer (some ⟨L.xb, 0, none⟩) := hF.ground (by kernel_rfl)
      refine readTK hT (.pointer (some ⟨L.bad, 0, none⟩)) ho (by kernel_rfl) rfl (fun u h1 h2 => ?_) fun w2 hT2 => hk2 _ _ ⟨hF.put' apt (getD_low hl) (show dstOf c5ops 0 = some 54 by kernel_rfl) rfl, hT2⟩
      have h2 : CMem L T H n rows u := h2
      have hm := h2.xb.cell 0
      simp only [execOp, Act.eval, e0]; go_simp
    · obtain rfl := Option.some.inj ho2
      clear ho2
      have e0 : t.getD 2 undef = .pointer (some ⟨L.kb k, 0, none⟩) := hF.ground (by kernel_rfl)
      refine readTK hT (.int .i64 k) ho (by kernel_rfl) rfl (fun u h1 h2 => ?_) fun w2 hT2 => hk2 _ _ ⟨hF.put' apt (getD_low hl) (show dstOf c5ops 1 = some 55 by kernel_rfl) rfl, hT2⟩
      have h2 : CMem L T H n rows u := h2
      have hm := (h2.kb k hk).cell 0
      simp only [execOp, Act.eval, e0]; go_simp
    · obtain rfl := Option.some.inj ho2
      clear ho2
      have e0 : t.getD 4 undef = .pointer (some ⟨L.xb, 0, none⟩) := hF.ground (by kernel_rfl)
      refine readTK hT (.pointer (some ⟨L.bad, 0, none⟩)) ho (by kernel_rfl) rfl (fun u h1 h2 => ?_) fun w2 hT2 => hk2 _ _ ⟨hF.put' apt (getD_low hl) (show dstOf c5ops 2 = some 56 by kernel_rfl) rfl, hT2⟩
      have h2 : CMem L T H n rows u := h2
      have hm := h2.xb.cell 0
      simp only [execOp, Act.eval, e0]; go_simp
    · obtain rfl := Option.some.inj ho2
      clear ho2
      have e0 : t.getD 2 undef = .pointer (some ⟨L.kb k, 0, none⟩) := hF.ground (by kernel_rfl)
      refine readTK hT (.int .i64 k) ho (by kernel_rfl) rfl (fun u h1 h2 => ?_) fun w2 hT2 => hk2 _ _ ⟨hF.put' apt (getD_low hl) (show dstOf c5ops 3 = some 57 by kernel_rfl) rfl, hT2⟩
      have h2 : CMem L T H n rows u := h2
      have hm := (h2.kb k hk).cell 0
      simp only [execOp, Act.eval, e0]; go_simp
    · obtain rfl := Option.some.inj ho2
      clear ho2
      have e0 : t.getD 56 undef = .pointer (some ⟨L.bad, 0, none⟩) := hF.get (hr ⟨2, .data⟩ (by simp) rfl) (by kernel_rfl)
      refine valE O rfl (.pointer (some ⟨L.bad, 0, none⟩)) ho rfl (fun _ => ?_) (fun _ => ?_) (hk2 _ _ ⟨hF.put' apt (getD_low hl) (show dstOf c5ops 4 = some 58 by kernel_rfl) rfl, hT⟩)
      · simp [go_sem, execOp, Act.eval, *]
      · simp only [execOp, Act.eval, *]; go_simp
    · obtain rfl := Option.some.inj ho2
      clear ho2
      have e0 : t.getD 58 undef = .pointer (some ⟨L.bad, 0, none⟩) := hF.get (hr ⟨4, .data⟩ (by simp) rfl) (by kernel_rfl)
      have e1 : t.getD 57 undef = .int .i64 k := hF.get (hr ⟨3, .data⟩ (by simp) rfl) (by kernel_rfl)
      refine readTK hT (.pointer (some ⟨L.bad, k, none⟩)) ho (by kernel_rfl) rfl (fun u h1 h2 => ?_) fun w2 hT2 => hk2 _ _ ⟨hF.put' apt (getD_low hl) (show dstOf c5ops 5 = some 59 by kernel_rfl) rfl, hT2⟩
      have h2 : CMem L T H n rows u := h2
      skip
      simp only [execOp, Act.eval, e0]; go_simp
    · obtain rfl := Option.some.inj ho2
      clear ho2
      have e0 : t.getD 59 undef = .pointer (some ⟨L.bad, k, none⟩) := hF.get (hr ⟨5, .data⟩ (by simp) rfl) (by kernel_rfl)
      refine readTK hT (.bool false) ho (by kernel_rfl) rfl (fun u h1 h2 => ?_) fun w2 hT2 => hk2 _ _ ⟨hF.put' apt (getD_low hl) (show dstOf c5ops 6 = some 60 by kernel_rfl) rfl, hT2⟩
      have h2 : CMem L T H n rows u := h2
      have hm := bad_at h2 (show k < 16 by omega)
      simp only [execOp, Act.eval, e0]; go_simp
    · obtain rfl := Option.some.inj ho2
      clear ho2
      have e0 : t.getD 60 undef = .bool false := hF.get (hr ⟨6, .data⟩ (by simp) rfl) (by kernel_rfl)
      refine valE O rfl (.bool false) ho rfl (fun _ => ?_) (fun _ => ?_) (hk2 _ _ ⟨hF.put' apt (getD_low hl) (show dstOf c5ops 7 = some 61 by kernel_rfl) rfl, hT⟩)
      · simp [go_sem, execOp, Act.eval, *]
      · simp only [execOp, Act.eval, *]; go_simp
    · obtain rfl := Option.some.inj ho2
      clear ho2
      have e0 : t.getD 8 undef = .int .i64 0 := hF.ground (by kernel_rfl)
      refine valE O rfl (.int .i64 0) ho (by show (yielded c5ops t 7 == some false) = true; rw [hF.yield (hr ⟨7, .guard⟩ (by simp) rfl) (show dstOf c5ops 7 = some 61 by kernel_rfl) (b := false) rfl]; rfl) (fun _ => ?_) (fun _ => ?_) (hk2 _ _ ⟨hF.put' apt (getD_low hl) (show dstOf c5ops 8 = some 62 by kernel_rfl) rfl, hT⟩)
      · simp [go_sem, execOp, Act.eval, *]
      · simp only [execOp, Act.eval, *]; go_simp
    · obtain rfl := Option.some.inj ho2
      clear ho2
      have e0 : t.getD 62 undef = .int .i64 0 := hF.get (hr ⟨8, .data⟩ (by simp) rfl) (by kernel_rfl)
      refine valE O rfl (.bool false) ho (by show (yielded c5ops t 7 == some false) = true; rw [hF.yield (hr ⟨7, .guard⟩ (by simp) rfl) (show dstOf c5ops 7 = some 61 by kernel_rfl) (b := false) rfl]; rfl) (fun _ => ?_) (fun _ => ?_) (hk2 _ _ ⟨hF.put' apt (getD_low hl) (show dstOf c5ops 9 = some 63 by kernel_rfl) rfl, hT⟩)
      · simp [go_sem, execOp, Act.eval, *]
      · simp only [execOp, Act.eval, *]; go_simp
    · obtain rfl := Option.some.inj ho2
      clear ho2
      have e0 : t.getD 61 undef = .bool false := hF.get (hr ⟨7, .data⟩ (by simp) rfl) (by kernel_rfl)
      have e1 : t.getD 63 undef = .bool false := hF.get (hr ⟨9, .data⟩ (by simp) rfl) (by kernel_rfl)
      refine valE O rfl (.bool false) ho rfl (fun _ => ?_) (fun _ => ?_) (hk2 _ _ ⟨hF.put' apt (getD_low hl) (show dstOf c5ops 10 = some 64 by kernel_rfl) rfl, hT⟩)
      · simp [go_sem, execOp, Act.eval, *]
      · simp only [execOp, Act.eval, *]; go_simp
    · obtain rfl := Option.some.inj ho2
      clear ho2
      have e0 : t.getD 64 undef = .bool false := hF.get (hr ⟨10, .data⟩ (by simp) rfl) (by kernel_rfl)
      refine valE O rfl (.bool false) ho rfl (fun _ => ?_) (fun _ => ?_) (hk2 _ _ ⟨hF.put' apt (getD_low hl) (show dstOf c5ops 11 = some 65 by kernel_rfl) rfl, hT⟩)
      · simp [go_sem, execOp, Act.eval, *]
      · simp only [execOp, Act.eval, *]; go_simp
    · obtain rfl := Option.some.inj ho2
      clear ho2
      have e0 : t.getD 9 undef = .int .i64 0 := hF.ground (by kernel_rfl)
      refine valE O rfl (.int .i64 0) ho (by show (yielded c5ops t 11 == some false) = true; rw [hF.yield (hr ⟨11, .guard⟩ (by simp) rfl) (show dstOf c5ops 11 = some 65 by kernel_rfl) (b := false) rfl]; rfl) (fun _ => ?_) (fun _ => ?_) (hk2 _ _ ⟨hF.put' apt (getD_low hl) (show dstOf c5ops 12 = some 66 by kernel_rfl) rfl, hT⟩)
      · simp [go_sem, execOp, Act.eval, *]
      · simp only [execOp, Act.eval, *]; go_simp
    · obtain rfl := Option.some.inj ho2
      clear ho2
      have e0 : t.getD 66 undef = .int .i64 0 := hF.get (hr ⟨12, .data⟩ (by simp) rfl) (by kernel_rfl)
      refine valE O rfl (.bool false) ho (by show (yielded c5ops t 11 == some false) = true; rw [hF.yield (hr ⟨11, .guard⟩ (by simp) rfl) (show dstOf c5ops 11 = some 65 by kernel_rfl) (b := false) rfl]; rfl) (fun _ => ?_) (fun _ => ?_) (hk2 _ _ ⟨hF.put' apt (getD_low hl) (show dstOf c5ops 13 = some 67 by kernel_rfl) rfl, hT⟩)
      · simp [go_sem, execOp, Act.eval, *]
      · simp only [execOp, Act.eval, *]; go_simp
    · obtain rfl := Option.some.inj ho2
      clear ho2
      have e0 : t.getD 65 undef = .bool false := hF.get (hr ⟨11, .data⟩ (by simp) rfl) (by kernel_rfl)
      have e1 : t.getD 67 undef = .bool false := hF.get (hr ⟨13, .data⟩ (by simp) rfl) (by kernel_rfl)
      refine valE O rfl (.bool false) ho rfl (fun _ => ?_) (fun _ => ?_) (hk2 _ _ ⟨hF.put' apt (getD_low hl) (show dstOf c5ops 14 = some 68 by kernel_rfl) rfl, hT⟩)
      · simp [go_sem, execOp, Act.eval, *]
      · simp only [execOp, Act.eval, *]; go_simp
    · obtain rfl := Option.some.inj ho2
      clear ho2
      have e0 : t.getD 54 undef = .pointer (some ⟨L.bad, 0, none⟩) := hF.get (hr ⟨0, .data⟩ (by simp) rfl) (by kernel_rfl)
      refine valE O rfl (.pointer (some ⟨L.bad, 0, none⟩)) ho rfl (fun _ => ?_) (fun _ => ?_) (hk2 _ _ ⟨hF.put' apt (getD_low hl) (show dstOf c5ops 15 = some 69 by kernel_rfl) rfl, hT⟩)
      · simp [go_sem, execOp, Act.eval, *]
      · simp only [execOp, Act.eval, *]; go_simp
    · obtain rfl := Option.some.inj ho2
      clear ho2
      have e0 : t.getD 69 undef = .pointer (some ⟨L.bad, 0, none⟩) := hF.get (hr ⟨15, .data⟩ (by simp) rfl) (by kernel_rfl)
      have e1 : t.getD 55 undef = .int .i64 k := hF.get (hr ⟨1, .data⟩ (by simp) rfl) (by kernel_rfl)
      refine readTK hT (.pointer (some ⟨L.bad, k, none⟩)) ho (by kernel_rfl) rfl (fun u h1 h2 => ?_) fun w2 hT2 => hk2 _ _ ⟨hF.put' apt (getD_low hl) (show dstOf c5ops 16 = some 70 by kernel_rfl) rfl, hT2⟩
      have h2 : CMem L T H n rows u := h2
      skip
      simp only [execOp, Act.eval, e0]; go_simp
    · obtain rfl := Option.some.inj ho2
      clear ho2
      have e0 : t.getD 70 undef = .pointer (some ⟨L.bad, k, none⟩) := hF.get (hr ⟨16, .data⟩ (by simp) rfl) (by kernel_rfl)
      have e1 : t.getD 68 undef = .bool false := hF.get (hr ⟨14, .data⟩ (by simp) rfl) (by kernel_rfl)
      refine opT hT undef a () ho (by kernel_rfl) rfl (fun u h1 h2 h3 => ?_) fun w2 hT2 => hk2 _ _ ⟨hF.put' apt (getD_low hl) (show dstOf c5ops 17 = none by kernel_rfl) rfl, hT2⟩
      have h2 : CMem L T H n rows u := h2
      refine ⟨u.setCell ⟨L.bad, k, none⟩ (.bool false), .inr ⟨?_, rfl⟩, ?_⟩
      · have hm := bad_at h2 (show k < 16 by omega)
        have hf := h2.bad.free k
        simp only [execOp, Act.eval, e0, e1]
        go_simp
      · have he := bad_same h2 (show k < 16 by omega)
        exact ⟨(talJob T A H n).frame a u _ (fun b _ => he b) h1, CMem.frame (fun b _ => he b) h2, h3, (Sm.refl _ _).setCell (.inr (.inr (.inr (.inr (.inr (.inl rfl)))))) _, fun y hy => .inl hy⟩
  · intro listed m' t w' hsz hall ⟨hF, hmm, hT⟩
    subst hmm
    have := hF.all apt hsz hall
    rw [this, hs18]
    exact cpsR_nil O (hq _ hT)
end
end Go.Proofs.Ytdedmmjmiakidaa
