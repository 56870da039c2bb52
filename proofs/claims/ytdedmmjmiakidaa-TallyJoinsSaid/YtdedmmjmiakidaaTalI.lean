/- Histograms as values: their equality; Join by definition; tally.Join, walked alone. -/
import Derived.Test.YtdedmmjmiakidaaTalH
import Derived.Test.YtdedmmjmiakidaaTalF
import Derived.DeepKeys
namespace Go.Proofs.Ytdedmmjmiakidaa
open Go.RowKit
set_option linter.unusedVariables false

def lits (m : List Nat) : List Lit := m.map fun (x : Nat) => Lit.int .u64 (x : Int)
theorem lits_inj {a b : List Nat} : lits a = lits b ↔ a = b := by
  refine ⟨fun h => ?_, fun h => by rw [h]⟩
  unfold lits at h
  exact List.map_inj_right (fun x y e => by simp at e; omega) |>.1 h

theorem keyLits_u64 (d x : Nat) (hx : x < 18446744073709551616) : Try.prog.keyLits (d + 1) 23 [.int .u64 (x : Int)] = some [.int .u64 (x : Int)] := by
  have hw : (Lit.int .u64 (x : Int)).wf = true := by
    simp [Lit.wf, IntKind.min, IntKind.max, IntKind.signed, IntKind.bits]; omega
  unfold Program.keyLits
  rw [Try.underlying23]
  simp [hw]

theorem mapM_one {α β : Type} (f : α → Option β) (g : α → β) : ∀ (l : List α), (∀ x ∈ l, f x = some (g x)) → l.mapM f = some (l.map g)
  | [], _ => by simp
  | x :: l, h => by
    rw [List.mapM_cons, h x (by simp), mapM_one f g l (fun y hy => h y (by simp [hy]))]
    rfl

theorem flatten_sing {α β : Type} (g : α → β) : ∀ (l : List α), (l.map fun i => [g i]).flatten = l.map g
  | [] => rfl
  | x :: l => by rw [List.map_cons, List.flatten_cons, flatten_sing g l]; rfl

theorem drop_take_one (m : List Nat) (i : Nat) (h : i < m.length) : ((m.map fun (x : Nat) => Value.int .u64 (x : Int)).drop i).take 1 = [.int .u64 ((m[i] : Nat) : Int)] := by
  rw [← List.map_drop, ← List.map_take, List.take_one]
  simp [List.head?_drop, h]

theorem keyLits_u65 (d : Nat) (m : List Nat) (hl : m.length = 65) (hm : ∀ x ∈ m, x < 18446744073709551616) : Try.prog.keyLits (d + 2) 24 (uw m).toList = some (lits m) := by
  have hce : Try.prog.cellsOf 23 = 1 := by kernel_rfl
  have hct : Try.prog.cellsOf 24 = 65 := by kernel_rfl
  unfold Program.keyLits
  rw [Try.underlying24]
  have hlen : (uw m).toList.length = 65 := by rw [Array.length_toList, uw_size, hl]
  simp only [hlen, hct, hce, if_true]
  have e : (List.range 65).mapM (fun i => Try.prog.keyLits (d + 1) 23 (((uw m).toList.drop (i * 1)).take 1)) = some ((List.range 65).map fun i => [Lit.int .u64 ((m.getD i 0 : Nat) : Int)]) := by
    refine mapM_one _ _ _ (fun i hi => ?_)
    have hi' : i < m.length := by rw [hl]; simpa using hi
    have : ((uw m).toList.drop (i * 1)).take 1 = [.int .u64 ((m[i] : Nat) : Int)] := by
      rw [Nat.mul_one]
      exact drop_take_one m i hi'
    rw [this, keyLits_u64 d _ (hm _ (List.getElem_mem hi'))]
    simp [List.getD, hi']
  rw [e]
  simp only [Option.map_some, Option.some.injEq, lits]
  rw [flatten_sing]
  apply List.ext_getElem
  · simp [hl]
  · intro i h1 h2
    have hi : i < m.length := by simpa using h2
    simp [List.getD, hi]

theorem keyLits_hist (d : Nat) (m : List Nat) (hl : m.length = 67) (hm : ∀ x ∈ m, x < 18446744073709551616) : Try.prog.keyLits (d + 3) 26 (uw m).toList = some (lits m) := by
  have hce : Try.prog.cellsOf 23 = 1 := by kernel_rfl
  have hct : Try.prog.cellsOf 24 = 65 := by kernel_rfl
  have hch : Try.prog.cellsOf 26 = 67 := by kernel_rfl
  unfold Program.keyLits
  rw [Try.underlying26]
  have hlen : (uw m).toList.length = 67 := by rw [Array.length_toList, uw_size, hl]
  have e1 : ((uw m).toList.drop 0).take 65 = (uw (m.take 65)).toList := by simp [uw]
  have e2 : ((uw m).toList.drop 65).take 1 = [.int .u64 ((m[65]'(by omega) : Nat) : Int)] := drop_take_one m 65 (by omega)
  have e3 : ((uw m).toList.drop 66).take 1 = [.int .u64 ((m[66]'(by omega) : Nat) : Int)] := drop_take_one m 66 (by omega)
  have k1 := keyLits_u65 d (m.take 65) (by simp [hl]) (fun x hx => hm x (List.mem_of_mem_take hx))
  have k2 := keyLits_u64 (d + 1) (m[65]'(by omega)) (hm _ (List.getElem_mem _))
  have k3 := keyLits_u64 (d + 1) (m[66]'(by omega)) (hm _ (List.getElem_mem _))
  rw [List.drop_zero] at e1
  have k1' : Try.prog.keyLits (d + 2) 24 (List.take 65 (uw m).toList) = some (lits (m.take 65)) := by rw [e1]; exact k1
  simp [hlen, hct, hce, hch, e2, e3, k2, k3, k1']
  have hd : m.drop 65 = [m[65]'(by omega), m[66]'(by omega)] := by
    rw [List.drop_eq_getElem_cons (by omega), List.drop_eq_getElem_cons (by omega), List.drop_eq_nil_of_le (by omega)]
  have : m = m.take 65 ++ m.drop 65 := (List.take_append_drop 65 m).symm
  rw [hd] at this
  conv => rhs; rw [this]
  simp [lits]

set_option maxRecDepth 100000 in
theorem eq_hist (a b : List Nat) (ha : a.length = 67) (hb : b.length = 67) (ham : ∀ x ∈ a, x < 18446744073709551616) (hbm : ∀ x ∈ b, x < 18446744073709551616) (w : World) :
    (Op.equalIn 10000 26 (.agg (uw a)) (.agg (uw b))).run Try.prog w = .ok (decide (a = b)) w := by
  have hch : Try.prog.cellsOf 26 = 67 := by kernel_rfl
  have f : ∀ m : List Nat, m.length = 67 → (Value.agg (uw m)).formed Try.prog 26 = true := by
    intro m hm
    unfold Value.formed
    rw [Try.underlying26]
    simp [uw_size, hm, hch]
  obtain ⟨r, hr, hiff⟩ := run_equalIn_deep (P := Try.prog) 9990 10 26 (by kernel_rfl) w 10 10 (.agg (uw a)) (.agg (uw b)) (lits a) (lits b) (f a ha) (f b hb) (keyLits_hist 7 a ha ham) (keyLits_hist 7 b hb hbm)
  rw [lits_inj] at hiff
  have e : r = decide (a = b) := by
    cases r
    · simp; intro e; exact absurd (hiff.2 e) (by simp)
    · simp [hiff.1 rfl]
  rw [e] at hr
  exact hr

theorem uw_extract (a : List Nat) (h : a.length = 67) : (uw a).extract 0 65 = uw (a.take 65) := by
  apply Array.ext'
  simp [uw]
set_option maxRecDepth 100000 in
/-- The counts' equality, as the walk leaves it. -/
theorem eq_counts (a b : List Nat) (ha : a.length = 67) (hb : b.length = 67) (ham : ∀ x ∈ a, x < 18446744073709551616) (hbm : ∀ x ∈ b, x < 18446744073709551616) (w : World) :
    (Op.equalIn 9999 24 (.agg ((uw a).extract 0 65)) (.agg ((uw b).extract 0 65))).run Try.prog w = .ok (decide (a.take 65 = b.take 65)) w := by
  have hch : Try.prog.cellsOf 24 = 65 := by kernel_rfl
  have f : ∀ m : List Nat, m.length = 65 → (Value.agg (uw m)).formed Try.prog 24 = true := by
    intro m hm
    unfold Value.formed
    rw [Try.underlying24]
    simp [uw_size, hm, hch]
  have la : (a.take 65).length = 65 := by simp [ha]
  have lb : (b.take 65).length = 65 := by simp [hb]
  obtain ⟨r, hr, hiff⟩ := run_equalIn_deep (P := Try.prog) 9989 10 24 (by kernel_rfl) w 10 10 (.agg (uw (a.take 65))) (.agg (uw (b.take 65))) (lits (a.take 65)) (lits (b.take 65)) (f _ la) (f _ lb)
    (keyLits_u65 8 _ la (fun x hx => ham x (List.mem_of_mem_take hx))) (keyLits_u65 8 _ lb (fun x hx => hbm x (List.mem_of_mem_take hx)))
  rw [lits_inj] at hiff
  have e : r = decide (a.take 65 = b.take 65) := by
    cases r
    · simp; intro e; exact absurd (hiff.2 e) (by simp)
    · simp [hiff.1 rfl]
  rw [e] at hr
  rw [uw_extract a ha, uw_extract b hb]
  exact hr
end Go.Proofs.Ytdedmmjmiakidaa
