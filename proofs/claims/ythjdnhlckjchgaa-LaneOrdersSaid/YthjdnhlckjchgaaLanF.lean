/- Keys of maps: stamps and packets' keys; their equality. -/
import Derived.Test.YthjdnhlckjchgaaLanE
import Derived.DeepKeys
import Derived.DeepKeys4
import Derived.Maps.OwnSet
namespace Go.Proofs.Ythjdnhlckjchgaa
open Go.RowKit
set_option linter.unusedVariables false

theorem keyLits_int {q : IntKind} {T : TypeId} (hT : Try.prog.underlying T = some (.int q)) (d : Nat) (x : Int) (hw : (Lit.int q x).wf = true) : Try.prog.keyLits (d + 1) T [.int q x] = some [.int q x] := by
  unfold Program.keyLits
  rw [hT]
  simp [hw]
theorem wf_u8 (x : Nat) (h : x < 256) : (Lit.int .u8 (x : Int)).wf = true := by simp [Lit.wf, IntKind.min, IntKind.max, IntKind.signed, IntKind.bits]; omega
theorem wf_u16 (x : Nat) (h : x < 65536) : (Lit.int .u16 (x : Int)).wf = true := by simp [Lit.wf, IntKind.min, IntKind.max, IntKind.signed, IntKind.bits]; omega
theorem wf_u64 (x : Nat) (h : x < 18446744073709551616) : (Lit.int .u64 (x : Int)).wf = true := by simp [Lit.wf, IntKind.min, IntKind.max, IntKind.signed, IntKind.bits]; omega
theorem wf_i64 (x : Int) (h : -9223372036854775808 ≤ x) (h2 : x < 9223372036854775808) : (Lit.int .i64 x).wf = true := by simp [Lit.wf, IntKind.min, IntKind.max, IntKind.signed, IntKind.bits]; omega

theorem mapM_one {α β : Type} (f : α → Option β) (g : α → β) : ∀ (l : List α), (∀ x ∈ l, f x = some (g x)) → l.mapM f = some (l.map g)
  | [], _ => by simp
  | x :: l, h => by
    rw [List.mapM_cons, h x (by simp), mapM_one f g l (fun y hy => h y (by simp [hy]))]
    rfl
theorem flatten_sing {α β : Type} (g : α → β) : ∀ (l : List α), (l.map fun i => [g i]).flatten = l.map g
  | [] => rfl
  | x :: l => by rw [List.map_cons, List.flatten_cons, flatten_sing g l]; rfl

def litB (l : List Nat) : List Lit := l.map fun (x : Nat) => Lit.int .u8 (x : Int)
def addrL (v6 : Bool) (l : List Nat) : List Lit := .bool v6 :: litB l
def keyL (k : KeyV) : List Lit := addrL k.s6 k.sb ++ addrL k.d6 k.db ++ [.int .u8 (k.pr : Int), .int .u16 (k.sp : Int), .int .u16 (k.dp : Int)]
theorem litB_inj {a b : List Nat} (h : litB a = litB b) : a = b := by
  unfold litB at h
  exact List.map_inj_right (fun x y e => by simp at e; omega) |>.1 h
theorem keyL_inj {a b : KeyV} (ha : a.Ok) (hb : b.Ok) : keyL a = keyL b ↔ a = b := by
  refine ⟨fun h => ?_, fun h => by rw [h]⟩
  obtain ⟨s6, sb, d6, db, pr, sp, dp⟩ := a
  obtain ⟨s6', sb', d6', db', pr', sp', dp'⟩ := b
  have l1 := ha.sl
  have l2 := ha.dl
  have l3 := hb.sl
  have l4 := hb.dl
  simp only [keyL, addrL, List.cons_append, List.cons.injEq, List.append_assoc] at h l1 l2 l3 l4
  obtain ⟨h1, h⟩ := h
  obtain ⟨h2, h⟩ := List.append_inj h (by simp [litB, l1, l3])
  simp only [List.cons.injEq] at h
  obtain ⟨h3, h⟩ := h
  obtain ⟨h4, h⟩ := List.append_inj h (by simp [litB, l2, l4])
  have e1 := litB_inj h2
  have e2 := litB_inj h4
  simp at h h1 h3
  obtain ⟨h5, h6, h7⟩ := h
  have e3 : pr = pr' := by omega
  have e4 : sp = sp' := by omega
  have e5 : dp = dp' := by omega
  subst h1 h3 e1 e2 e3 e4 e5
  rfl

theorem drop_take_ub (m : List Nat) (i : Nat) (h : i < m.length) : ((ub m).drop i).take 1 = [.int .u8 ((m[i] : Nat) : Int)] := by
  unfold ub
  rw [← List.map_drop, ← List.map_take, List.take_one]
  simp [List.head?_drop, h]
theorem keyLits_b16 (d : Nat) (m : List Nat) (hl : m.length = 16) (hm : ∀ x ∈ m, x < 256) : Try.prog.keyLits (d + 2) 58 (ub m) = some (litB m) := by
  have hce : Try.prog.cellsOf 5 = 1 := by kernel_rfl
  have hct : Try.prog.cellsOf 58 = 16 := by kernel_rfl
  unfold Program.keyLits
  rw [Try.underlying58]
  simp only [ub_len, hl, hct, hce, if_true]
  have e : (List.range 16).mapM (fun i => Try.prog.keyLits (d + 1) 5 (((ub m).drop (i * 1)).take 1)) = some ((List.range 16).map fun i => [Lit.int .u8 ((m.getD i 0 : Nat) : Int)]) := by
    refine mapM_one _ _ _ (fun i hi => ?_)
    have hi' : i < m.length := by rw [hl]; simpa using hi
    have : ((ub m).drop (i * 1)).take 1 = [.int .u8 ((m[i] : Nat) : Int)] := by
      rw [Nat.mul_one]
      exact drop_take_ub m i hi'
    rw [this, keyLits_int Try.underlying5 d _ (wf_u8 _ (hm _ (List.getElem_mem hi')))]
    simp [List.getD, hi']
  rw [e]
  simp only [Option.map_some, Option.some.injEq, litB]
  rw [flatten_sing]
  apply List.ext_getElem
  · simp [hl]
  · intro i h1 h2
    have hi : i < m.length := by simpa using h2
    simp [List.getD, hi]

theorem keyLits_addr (d : Nat) (v6 : Bool) (m : List Nat) (hl : m.length = 16) (hm : ∀ x ∈ m, x < 256) : Try.prog.keyLits (d + 3) 60 (addrC v6 m) = some (addrL v6 m) := by
  have hcb : Try.prog.cellsOf 4 = 1 := by kernel_rfl
  have hct : Try.prog.cellsOf 58 = 16 := by kernel_rfl
  have hch : Try.prog.cellsOf 60 = 17 := by kernel_rfl
  unfold Program.keyLits
  rw [Try.underlying60]
  have hlen := addrC_len v6 m hl
  have e1 : ((addrC v6 m).drop 1).take 16 = ub m := by simp [addrC, List.take_of_length_le, ub_len, hl]
  have e0 : (addrC v6 m).take 1 = [.bool v6] := by simp [addrC]
  have k1 := keyLits_b16 d m hl hm
  have k0 : Try.prog.keyLits (d + 2) 4 [.bool v6] = some [.bool v6] := by
    unfold Program.keyLits
    rw [Try.underlying4]
  simp [hlen, hct, hcb, hch, e0, e1, k0, k1, -List.drop_one]
  simp [addrL]

theorem keyLits_key (d : Nat) (k : KeyV) (hk : k.Ok) : Try.prog.keyLits (d + 4) 63 (keyC k) = some (keyL k) := by
  have hca : Try.prog.cellsOf 60 = 17 := by kernel_rfl
  have hc8 : Try.prog.cellsOf 5 = 1 := by kernel_rfl
  have hc16 : Try.prog.cellsOf 61 = 1 := by kernel_rfl
  have hch : Try.prog.cellsOf 63 = 37 := by kernel_rfl
  unfold Program.keyLits
  rw [Try.underlying63]
  have hlen := keyC_len k hk
  have l1 := addrC_len k.s6 k.sb hk.sl
  have l2 := addrC_len k.d6 k.db hk.dl
  have e0 : (keyC k).take 17 = addrC k.s6 k.sb := by
    unfold keyC
    rw [List.append_assoc, List.take_append_of_le_length (by omega), List.take_of_length_le (by omega)]
  have e1 : ((keyC k).drop 17).take 17 = addrC k.d6 k.db := by
    unfold keyC
    rw [List.append_assoc, List.drop_append_of_le_length (by omega), List.drop_of_length_le (by omega), List.nil_append, List.take_append_of_le_length (by omega), List.take_of_length_le (by omega)]
  have er : ∀ j, j < 3 → ((keyC k).drop (34 + j)).take 1 = ([Value.int .u8 (k.pr : Int), .int .u16 (k.sp : Int), .int .u16 (k.dp : Int)].drop j).take 1 := by
    intro j hj
    have e : (keyC k).drop (34 + j) = [Value.int .u8 (k.pr : Int), .int .u16 (k.sp : Int), .int .u16 (k.dp : Int)].drop j := by
      apply List.ext_getElem?
      intro i
      rw [List.getElem?_drop, List.getElem?_drop, ← keyC_rest k hk (j + i), Nat.add_assoc]
    rw [e]
  have e2 := er 0 (by omega)
  have e3 := er 1 (by omega)
  have e4 := er 2 (by omega)
  have k0 := keyLits_addr d k.s6 k.sb hk.sl hk.sx
  have k1 := keyLits_addr d k.d6 k.db hk.dl hk.dx
  have k2 := keyLits_int Try.underlying5 (d + 2) _ (wf_u8 k.pr hk.px)
  have k3 := keyLits_int Try.underlying61 (d + 2) _ (wf_u16 k.sp hk.spx)
  have k4 := keyLits_int Try.underlying61 (d + 2) _ (wf_u16 k.dp hk.dpx)
  simp only [Nat.add_zero, List.drop_zero, List.take_succ_cons, List.take_zero, List.drop_succ_cons] at e2 e3 e4
  simp [hlen, hca, hc8, hc16, hch, e0, e1, e2, e3, e4, k0, k1, k2, k3, k4]
  simp [keyL]

/-- A stamp. -/
def stC (a : Int) (s : Nat) : List Value := [.int .i64 a, .int .u64 (s : Int)]
def stL (a : Int) (s : Nat) : List Lit := [.int .i64 a, .int .u64 (s : Int)]
theorem keyLits_stamp (d : Nat) (a : Int) (s : Nat) (h1 : -9223372036854775808 ≤ a) (h2 : a < 9223372036854775808) (h3 : s < 18446744073709551616) : Try.prog.keyLits (d + 2) 38 (stC a s) = some (stL a s) := by
  have hci : Try.prog.cellsOf 3 = 1 := by kernel_rfl
  have hcu : Try.prog.cellsOf 36 = 1 := by kernel_rfl
  have hch : Try.prog.cellsOf 38 = 2 := by kernel_rfl
  unfold Program.keyLits
  rw [Try.underlying38]
  have k2 := keyLits_int Try.underlying3 d _ (wf_i64 a h1 h2)
  have k3 := keyLits_int Try.underlying36 d _ (wf_u64 s h3)
  simp [stC, stL, hci, hcu, hch, k2, k3]
theorem stL_inj {a a' : Int} {s s' : Nat} : stL a s = stL a' s' ↔ a = a' ∧ s = s' := by
  simp [stL]
  omega

theorem formed_key (k : KeyV) (hk : k.Ok) : (Value.agg (keyC k).toArray).formed Try.prog 63 = true := by
  have hch : Try.prog.cellsOf 63 = 37 := by kernel_rfl
  unfold Value.formed
  rw [Try.underlying63]
  simp [keyC_len k hk, hch]
theorem formed_stamp (a : Int) (s : Nat) : (Value.agg (stC a s).toArray).formed Try.prog 38 = true := by
  have hch : Try.prog.cellsOf 38 = 2 := by kernel_rfl
  unfold Value.formed
  rw [Try.underlying38]
  simp [stC, hch]

/-- The literal of a key in a map. -/
def keyN (k : KeyV) : Lit := .string (keyBytes (keyL k))
def stN (a : Int) (s : Nat) : Lit := .string (keyBytes (stL a s))
theorem types_size : ∃ d, Try.prog.types.size + 1 = d + 4 := ⟨Try.prog.types.size + 1 - 4, by
  have : 3 ≤ Try.prog.types.size := Nat.le_of_ble_eq_true (by kernel_rfl)
  omega⟩
theorem keyOf_key (k : KeyV) (hk : k.Ok) : keyOf Try.prog 63 (.agg (keyC k).toArray) = some (keyN k) := by
  obtain ⟨d, hd⟩ := types_size
  have hkt : Try.prog.keyType 63 = true := by kernel_rfl
  unfold keyOf
  rw [Try.underlying63]
  simp only [hkt, formed_key k hk, Bool.and_self, if_true, Value.cells, List.toList_toArray]
  rw [hd, keyLits_key d k hk]
  rfl
theorem keyOf_stamp (a : Int) (s : Nat) (h1 : -9223372036854775808 ≤ a) (h2 : a < 9223372036854775808) (h3 : s < 18446744073709551616) : keyOf Try.prog 38 (.agg (stC a s).toArray) = some (stN a s) := by
  obtain ⟨d, hd⟩ := types_size
  have hkt : Try.prog.keyType 38 = true := by kernel_rfl
  unfold keyOf
  rw [Try.underlying38]
  simp only [hkt, formed_stamp a s, Bool.and_self, if_true, Value.cells, List.toList_toArray]
  rw [hd, keyLits_stamp (d + 2) a s h1 h2 h3]
  rfl
theorem laid : laidOutB Try.prog = true := by kernel_rfl
theorem keyed_key : Maps.Keyed Try.prog 63 := Maps.Keyed.of_law (deep_law_laid laid (m := 10) (by omega) (Nat.le_of_ble_eq_true (by kernel_rfl)) (by kernel_rfl) (by kernel_rfl))
theorem keyed_stamp : Maps.Keyed Try.prog 38 := Maps.Keyed.of_law (deep_law_laid laid (m := 10) (by omega) (Nat.le_of_ble_eq_true (by kernel_rfl)) (by kernel_rfl) (by kernel_rfl))
theorem keyN_inj {a b : KeyV} (ha : a.Ok) (hb : b.Ok) (h : keyN a = keyN b) : a = b := by
  have h1 := keyOf_key a ha
  have h2 := keyOf_key b hb
  rw [← h] at h2
  have := keyed_key.inj h1 h2
  obtain ⟨d, hd⟩ := types_size
  have k1 := keyLits_key d a ha
  have k2 := keyLits_key d b hb
  have e : keyC a = keyC b := by simpa using this
  rw [e, k2] at k1
  exact ((keyL_inj ha hb).1 (by simpa using k1.symm))
theorem stN_inj {a a' : Int} {s s' : Nat} (h1 : -9223372036854775808 ≤ a) (h2 : a < 9223372036854775808) (h3 : s < 18446744073709551616) (h1' : -9223372036854775808 ≤ a') (h2' : a' < 9223372036854775808) (h3' : s' < 18446744073709551616)
    (h : stN a s = stN a' s') : a = a' ∧ s = s' := by
  have k1 := keyOf_stamp a s h1 h2 h3
  have k2 := keyOf_stamp a' s' h1' h2' h3'
  rw [← h] at k2
  have := keyed_stamp.inj k1 k2
  simp [stC] at this
  omega

theorem keyC_inj {a b : KeyV} (ha : a.Ok) (hb : b.Ok) : keyC a = keyC b ↔ a = b := by
  refine ⟨fun h => ?_, fun h => by rw [h]⟩
  have k1 := keyLits_key 6 a ha
  rw [h, keyLits_key 6 b hb] at k1
  exact ((keyL_inj ha hb).1 (by simpa using k1.symm))
theorem eq_keys (a b : KeyV) (ha : a.Ok) (hb : b.Ok) (w : World) : (Op.equalIn 10000 63 (.agg (keyC a).toArray) (.agg (keyC b).toArray)).run Try.prog w = .ok (decide (a = b)) w := by
  obtain ⟨r, hr, hiff⟩ := run_equalIn_deep (P := Try.prog) 9990 10 63 (by kernel_rfl) w 10 10 (.agg (keyC a).toArray) (.agg (keyC b).toArray) (keyL a) (keyL b) (formed_key a ha) (formed_key b hb) (by simpa [Value.cells] using keyLits_key 6 a ha) (by simpa [Value.cells] using keyLits_key 6 b hb)
  rw [keyL_inj ha hb] at hiff
  have e : r = decide (a = b) := by
    cases r
    · simp; intro e; exact absurd (hiff.2 e) (by simp)
    · simp [hiff.1 rfl]
  rw [e] at hr
  exact hr
end Go.Proofs.Ythjdnhlckjchgaa
