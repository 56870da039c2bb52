/- patchbaylaw11: made and awake, walked alone. -/
import Derived.Test.YtdedmmjmiakidaaTalE
namespace Go.Proofs.Ytdedmmjmiakidaa
open Go.RowKit
set_option linter.unusedVariables false

def prow (T H : Nat) (n : Nat) : Array Value := #[.pointer (some ⟨T, 0, none⟩), .pointer (some ⟨H, 0, none⟩), .int .i64 n]

/-- A pair in memory. -/
structure Pr (P T A H n : Nat) (m hm : List Nat) (w : World) : Prop where
  rP : Row w P (prow T H n) 115
  tal : Tal T A m w
  his : His H hm w
  aT : A < T
  tH : T < H
  hP : H < P

theorem Pr.sm {F : Nat → Prop} {P T A H n : Nat} {m hm : List Nat} {w w' : World} (h : Pr P T A H n m hm w) (k : Sm F w w') (hF : ∀ b, A ≤ b → b ≤ P → ¬ F b) : Pr P T A H n m hm w' :=
  { h with
    rP := h.rP.sm k (hF P (by have := h.aT; have := h.tH; have := h.hP; omega) (Nat.le_refl _))
    tal := h.tal.sm k (hF T (by have := h.aT; omega) (by have := h.tH; have := h.hP; omega)) (hF A (Nat.le_refl _) (by have := h.aT; have := h.tH; have := h.hP; omega))
    his := h.his.sm k (hF H (by have := h.aT; have := h.tH; omega) (by have := h.hP; omega)) }

set_option maxRecDepth 100000 in
theorem made_c (n : Nat) (h0 : 0 < n) (hn : n ≤ 64) (w : World) :
    Calls Try.prog 25 #[.int .i64 n] w fun e w' =>
      ∃ P T A H, w.heap.size ≤ A ∧ e = .returned (.pointer (some ⟨P, 0, none⟩)) ∧ Pr P T A H n (List.replicate n 0) (List.replicate 67 0) w' ∧ Sm (fun _ => False) w w' := by
  go_enter Try.func25, Try.ntmps25
  go_wp2_with fail
  refine (tnew_ok n h0 hn w).mono ?_
  rintro e w1 ⟨rfl, hs1, ht1⟩
  have HS1 := Lib.hid hs1
  have HT1 := Lib.hid ht1
  have HX := Lib.hid (And.intro ht1.rT.lt ht1.rA.lt)
  clear hs1 ht1
  go_wp2_with fail
  refine (newHist_c w1).mono ?_
  rintro e w2 ⟨rfl, hs2, hh2⟩
  have HS2 := Lib.hid hs2
  have HH2 := Lib.hid hh2
  clear hs2 hh2
  go_wp2
  go_ret
  have hx := HX.out
  have hl := HH2.out.r.lt
  refine ⟨w2.heap.size, w.heap.size + 1, w.heap.size, w1.heap.size, Nat.le_refl _, rfl, ⟨Row.new w2 _ _, ?_, ?_, by omega, by omega, hl⟩, (HS1.out.trans HS2.out).alloc _⟩
  · exact (HT1.out.sm HS2.out (fun h => h) (fun h => h)).sm ((Sm.refl (fun _ => False) _).alloc _) (fun h => h) (fun h => h)
  · exact HH2.out.sm ((Sm.refl (fun _ => False) _).alloc _) (fun h => h)

/-- A gate that is notes, beside something else that stays. -/
theorem gate_noteX (B nb : Nat) (X : Nat → Prop) (Y : World → Prop) (hX : ∀ k, X k → k < nb) (hB : B ≤ nb) (hY1 : ∀ w w', Y w → Sm X w w' → Y w') (hY2 : ∀ w w', Y w → Sm (fun b => nb ≤ b) w w' → Y w') :
    GateOk (.iface 61 (.pointer (some ⟨nb, 0, none⟩))) B X (fun w L => (nb < w.heap.size ∧ Noted nb w L) ∧ Y w) where
  step := fun w L op wd hL hg => (tstep_note nb op wd w L hL hg.1.2).mono fun e w' ⟨h1, h2, h3⟩ =>
    ⟨h1, ⟨⟨Nat.lt_of_lt_of_le hg.1.1 h3.size, h2⟩, hY2 w w' hg.2 h3⟩, h3.below (by omega) (fun k hk => by omega), fun k hk => h3.block k (by have := hX k hk; omega) (by have := hX k hk; omega)⟩
  keep := fun w w' L hg k => ⟨⟨Nat.lt_of_lt_of_le hg.1.1 k.size, hg.1.2.sm k (fun b hb hf => by have := hX b hf; omega)⟩, hY1 w w' hg.2 k⟩

theorem setRow_new (w : World) (m : List Nat) (hm : m.length = 67) : (w.alloc (.cells Try.zeroCells26 26)).setRow w.heap.size (uw m) = w.alloc (.cells (uw m) 26) := World.setRow_alloc_new _ _ _ _
theorem wpList_store_new67 {ops : Array Oper} {rest : List Oper} {o : Oper} {a : Act} {w : World} {Q : Exit → Act → World → Prop} (hgd : o.guard = none) (x y : Operand) (ho : o.op = .store 26 x y)
    (hx : a.eval x = .pointer (some ⟨w.heap.size, 0, none⟩)) (m' : List Nat) (hy : a.eval y = .agg (uw m')) (hlen' : m'.length = 67) (h : wpList Try.prog ops Q rest (a.put o.dst undef) (w.alloc (.cells (uw m') 26))) : wpList Try.prog ops Q (o :: rest) a (w.alloc (.cells Try.zeroCells26 26)) := by
  refine wpList_store_u67 hgd x y ho w.heap.size 26 hx (List.replicate 67 0) m' hy (by simp) hlen' (by rw [← zero_ah]; exact Row.new w _ _) ?_
  rw [setRow_new w m' hlen']
  exact h
end Go.Proofs.Ytdedmmjmiakidaa
