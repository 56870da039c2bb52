/- A map to ints, told by a function of the key's literal and by how many entries it has. -/
import Derived.Test.YthjdnhlckjchgaaLanF
namespace Go.Proofs.Ythjdnhlckjchgaa
open Go.RowKit
set_option linter.unusedVariables false

open Classical in
noncomputable def upd (f : Lit → Option Int) (k : Lit) (x : Option Int) : Lit → Option Int := fun l => if l = k then x else f l
theorem upd_same (f : Lit → Option Int) (k : Lit) (x : Option Int) : upd f k x k = x := by simp [upd]
theorem upd_ne (f : Lit → Option Int) (k l : Lit) (x : Option Int) (h : l ≠ k) : upd f k x l = f l := by simp [upd, h]

/-- Block b is a map with keys of type K that reads as f, of n entries. -/
def MapI (K : TypeId) (w : World) (b : Nat) (f : Lit → Option Int) (n : Nat) : Prop :=
  ∃ D : DataW Unit, w.ownsMap Try.prog K (plainElem Try.prog 3) b n D ∧ Maps.size D = n ∧ ∀ kl, Maps.has D kl = (f kl).isSome ∧ ∀ x, f kl = some x → D.atKey kl (.lit (.int .i64 0)) = .lit (.int .i64 x)

theorem owns_tight {K : TypeId} {w : World} {b n : Nat} {R : Value → Option (DataW Unit × List MemPlace)} {D : DataW Unit} (h : w.ownsMap Try.prog K R b n D) : w.ownsMap Try.prog K R b (Maps.size D) D := by
  obtain ⟨es, clock, hb, F, hs, rfl⟩ := h
  exact ⟨es, clock, hb, F, by simp [Maps.size, length_sorted], rfl⟩

theorem zero_int (w : World) : (zeroValue 3).run Try.prog w = .ok (.int .i64 0) w := by
  obtain ⟨i, h1, h2⟩ : ∃ i, Try.prog.info? 3 = some i ∧ i.zero = some (.int .i64 0) := by
    have h : (Try.prog.info? 3).map (fun i => i.zero) = some (some (.int .i64 0)) := by kernel_rfl
    cases h' : Try.prog.info? 3 with
    | none => simp [h'] at h
    | some i => exact ⟨i, rfl, by simpa [h'] using h⟩
  simp [zeroValue, typeInfo, h1, h2]

variable {K T : TypeId} {w : World} {b n : Nat} {f : Lit → Option Int}

theorem MapI.made (K : TypeId) (w : World) : MapI K (w.alloc (.map #[] 0)) w.heap.size (fun _ => none) 0 :=
  ⟨.map [], World.ownsMap_made w _ _ _, rfl, fun kl => ⟨rfl, fun x h => by cases h⟩⟩
theorem MapI.lt (h : MapI K w b f n) : b < w.heap.size := by
  obtain ⟨D, h1, _⟩ := h
  exact h1.lt
theorem MapI.of_heap {w' : World} (h : MapI K w b f n) (e : w'.heap[b]? = w.heap[b]?) : MapI K w' b f n := by
  obtain ⟨D, ⟨es, clock, hb, r⟩, h2, h3⟩ := h
  exact ⟨D, ⟨es, clock, e.trans hb, r⟩, h2, h3⟩
theorem MapI.sm {F : Nat → Prop} {w' : World} (h : MapI K w b f n) (k : Sm F w w') (hf : ¬ F b) : MapI K w' b f n := h.of_heap (k.block b h.lt hf)
theorem MapI.drew (h : MapI K w b f n) : MapI K w.drew b f n := h

theorem MapI.look_ok (h : MapI K w b f n) (hk : Maps.Keyed Try.prog K) (ht : Try.prog.underlying T = some (.map K 3)) {key : Value} {kl : Lit} (hkey : keyOf Try.prog K key = some kl) :
    (Instr.lookup T (.map (some b)) key true).run Try.prog w = .ok (.tuple #[.int .i64 ((f kl).getD 0), .bool (f kl).isSome]) w := by
  obtain ⟨D, h1, h2, h3⟩ := h
  obtain ⟨v, ps, hrun, hv⟩ := h1.look_ok hk ht (zero_int w) (plainElem_int Try.underlying3 (by decide)) hkey
  obtain ⟨c, rfl, hc, hwc⟩ := plainElem_int_inv Try.underlying3 hv
  simp only [Prod.mk.injEq] at hc
  rw [hrun, (h3 kl).1]
  cases hf : f kl with
  | none =>
    have e := Maps.atKey_of_not_has (D := D) (k := kl) (by rw [(h3 kl).1, hf]; rfl) (.lit (.int .i64 0))
    rw [hc.1] at e
    simp at e
    simp [e]
  | some x =>
    have e := (h3 kl).2 x hf
    rw [hc.1] at e
    simp at e
    simp [e]
theorem MapI.look (h : MapI K w b f n) (hk : Maps.Keyed Try.prog K) (ht : Try.prog.underlying T = some (.map K 3)) {key : Value} {kl : Lit} (hkey : keyOf Try.prog K key = some kl) :
    (Instr.lookup T (.map (some b)) key false).run Try.prog w = .ok (.int .i64 ((f kl).getD 0)) w := by
  obtain ⟨D, h1, h2, h3⟩ := h
  obtain ⟨c, hrun, hc, hwc⟩ := h1.lookup_int hk ht Try.underlying3 (zero_int w) hkey
  rw [hrun]
  cases hf : f kl with
  | none =>
    have e := Maps.atKey_of_not_has (D := D) (k := kl) (by rw [(h3 kl).1, hf]; rfl) (.lit (.int .i64 0))
    rw [hc] at e
    simp at e
    simp [e]
  | some x =>
    have e := (h3 kl).2 x hf
    rw [hc] at e
    simp at e
    simp [e]

theorem MapI.store (h : MapI K w b f n) (hk : Maps.Keyed Try.prog K) (ht : Try.prog.underlying T = some (.map K 3)) (hn : n < 1000000) {key : Value} {kl : Lit} (hkey : keyOf Try.prog K key = some kl) (x : Int) (hx : (Lit.int .i64 x).wf = true) :
    ∃ w', (Instr.mapUpdate T (.map (some b)) key (.int .i64 x)).run Try.prog w = .ok () w' ∧ MapI K w' b (upd f kl (some x)) (if (f kl).isSome then n else n + 1) ∧ Sm (fun c => c = b) w w' := by
  obtain ⟨D, h1, h2, h3⟩ := h
  obtain ⟨w', hrun, hown, hturn⟩ := h1.store hk ht (by unfold maxLen; omega) hkey (plainElem_int Try.underlying3 hx)
  have ht2 := h1.tidy hk
  have hs := Maps.size_put (D := D) (k := kl) ht2 (.lit (.int .i64 x))
  rw [(h3 kl).1, h2] at hs
  have hg := hturn.grown
  refine ⟨w', hrun, ⟨_, by have := owns_tight hown; rw [hs] at this; exact this, hs, fun l => ?_⟩, ⟨hg.os, hg.tape, hg.output, hg.size, fun j hj hf => hg.block j hj (fun e => hf (by simpa using e))⟩⟩
  by_cases e : l = kl
  · subst e
    rw [upd_same]
    exact ⟨by rw [Maps.has_put_same ht2.isMap (hk.key hkey)]; rfl, fun y hy => by cases hy; exact Maps.atKey_put_same ht2.isMap (hk.key hkey) _ _⟩
  · rw [upd_ne _ _ _ _ e, Maps.has_put_other e, Maps.atKey_put_other e]
    exact h3 l

theorem MapI.drop (h : MapI K w b f n) (hk : Maps.Keyed Try.prog K) (ht : Try.prog.underlying T = some (.map K 3)) {key : Value} {kl : Lit} (hkey : keyOf Try.prog K key = some kl) (ty : TypeId) :
    ∃ w', (Builtin.delete_ #[T, K] ty #[.map (some b), key]).run Try.prog w = .ok (.tuple #[]) w' ∧ MapI K w' b (upd f kl none) (if (f kl).isSome then n - 1 else n) ∧ Sm (fun c => c = b) w w' := by
  obtain ⟨D, h1, h2, h3⟩ := h
  obtain ⟨w', hrun, hown, hturn⟩ := h1.drop hk ht hkey ty
  have ht2 := h1.tidy hk
  have hs := Maps.size_del (D := D) (k := kl) ht2
  rw [(h3 kl).1, h2] at hs
  have hg := hturn.grown
  have hs2 : Maps.size (D.del kl) = if (f kl).isSome then n - 1 else n := by split at hs <;> simp_all <;> omega
  refine ⟨w', hrun, ⟨_, by have := owns_tight hown; rw [hs2] at this; exact this, hs2, fun l => ?_⟩, ⟨hg.os, hg.tape, hg.output, hg.size, fun j hj hf => hg.block j hj (fun e => hf (by simpa using e))⟩⟩
  by_cases e : l = kl
  · subst e
    rw [upd_same]
    exact ⟨by rw [Maps.has_del_same]; rfl, fun y hy => by cases hy⟩
  · rw [upd_ne _ _ _ _ e, Maps.has_del_other e, Maps.atKey_del_other e]
    exact h3 l
theorem MapI.len (h : MapI K w b f n) (ht : Try.prog.underlying T = some (.map K 3)) (ty : TypeId) : (Builtin.len_ #[T] ty #[.map (some b)]).run Try.prog w = .ok (.int .i64 n) w := by
  obtain ⟨D, h1, h2, h3⟩ := h
  have := h1.len ht ty
  rw [h2] at this
  exact this
end Go.Proofs.Ythjdnhlckjchgaa
