/- Plain words: an order brought to few threads (patchbayref00.Order), walked alone. No condition. -/
import Derived.Test.YtdedmmjmiakidaaFwAF
import Derived.Test.YtdedmmjmiakidaaFwAJ
import Derived.OwnWalk
set_option linter.unusedVariables false
set_option linter.unusedSimpArgs false
/- Plain words: an order brought to few threads (patchbayref00.Order), walked alone. No condition. -/
namespace Go.Proofs.Ytdedmmjmiakidaa
open Go.RowKit
set_option linter.unusedVariables false
set_option linter.unusedSimpArgs false
/-- A list of numbers that is handed in. -/
structure IntsArg (b off n : Nat) (xs : Nat → Int) (w : World) : Prop where
  at_ : ∀ j, j < n → w.cell? ⟨b, off + j, none⟩ = some (.int .i64 (xs j))
  old : 0 < n → b < w.heap.size
theorem IntsArg.sm {b off n : Nat} {xs : Nat → Int} {w w' : World} (h : IntsArg b off n xs w) (k : Sm (fun _ => False) w w') : IntsArg b off n xs w' :=
  ⟨fun j hj => (k.cell (h.old (by omega)) (fun h => h)).trans (h.at_ j hj), fun h0 => Nat.lt_of_lt_of_le (h.old h0) k.size⟩
def ordL (n : Nat) (xs : Nat → Int) (t : Nat) : List Int := (List.range (min n 2000)).map fun j => (wi (xs j) (t + 1) : Int)
theorem ordL_len (n : Nat) (xs : Nat → Int) (t : Nat) : (ordL n xs t).length = min n 2000 := by simp [ordL]
theorem info_int : (Try.prog.info? 3).map (fun i => (i.zero, i.size, i.bytes)) = some (some (.int .i64 0), 1, 8) := by kernel_rfl
def ordV (xs : Nat → Int) (t k : Nat) : List Value := (List.range k).map fun j => .int .i64 (wi (xs j) (t + 1))
theorem ordV_len (xs : Nat → Int) (t k : Nat) : (ordV xs t k).length = k := by simp [ordV]
theorem ordV_succ (xs : Nat → Int) (t k : Nat) : ordV xs t (k + 1) = ordV xs t k ++ [.int .i64 (wi (xs k) (t + 1))] := by simp [ordV, List.range_succ]
theorem ordV_all (n : Nat) (xs : Nat → Int) (t : Nat) : ordV xs t (min n 2000) = (ordL n xs t).map (Value.int .i64) := by simp [ordV, ordL]
set_option maxRecDepth 100000 in
set_option maxHeartbeats 1600000 in
theorem rorder_c (a : Option Addr) (b off n c t : Nat) (xs : Nat → Int) (ha : 0 < n → a = some ⟨b, off, none⟩) (hn : n ≤ 9223372036854775807) (ht : t ≤ 100) (w : World) (h : IntsArg b off n xs w) :
    Calls Try.prog 31 #[.slice a n c, .int .i64 t] w fun e w' =>
      ∃ v, e = .returned v ∧ w'.ownsRow w.heap.size 3 1 v (ordL n xs t).length ((ordL n xs t).map (Value.int .i64)) ∧ Sm (fun _ => False) w w' := by
  obtain ⟨i0, hi, hz0, hz1, hz2⟩ := info_parts info_int
  have Hi := Lib.hid hi
  have Hz0 := Lib.hid hz0
  have Hz1 := Lib.hid hz1
  have Hz2 := Lib.hid hz2
  have HH := Lib.hid h
  have HA := Lib.hid ha
  clear hi hz0 hz1 hz2 h ha
  go_enter Try.func31, Try.ntmps31
  go_wp2
  go_loopw [5, 6] (fun s5 s6 wr => ∃ k : Nat, k ≤ n ∧ k ≤ 2000 ∧ s6 = .int .i64 k ∧ Hid (wr.ownsRow w.heap.size 3 1 s5 k (ordV xs t k)) ∧ Hid (Sm (fun _ => False) w wr)) (fun s5 s6 _ => n - (intOf s6).toNat)
  case atStart => exact ⟨0, by omega, by omega, rfl, Lib.hid (World.ownsRow_nil _ _ _ _), Lib.hid (Sm.refl _ _)⟩
  case round =>
    obtain ⟨wo, rfl⟩ : ∃ wo : World, wo = wr := ⟨_, rfl⟩
    obtain ⟨k, hk, hk2, rfl, hown, hS⟩ := hrel
    obtain ⟨a5, c5, hv5⟩ := own_form0 hown.out
    subst hv5
    have hfin : ∀ (hkn : k = min n 2000), wo.ownsRow w.heap.size 3 1 (.slice a5 k c5) (ordL n xs t).length ((ordL n xs t).map (Value.int .i64)) := fun hkn => by
      rw [ordL_len, ← ordV_all, ← hkn]; exact hown.out
    have HF := Lib.hid hfin
    clear hfin
    by_cases hlt : k < n
    · have j1 : (k : Int) < (n : Int) := by omega
      by_cases h6 : k < 2000
      · have j6 : (k : Int) < 2000 := by omega
        have hp : wrap64 ((k : Int) + 1) = ((k + 1 : Nat) : Int) := by unfold wrap64; omega
        have HP := Lib.hid hp
        clear hp
        have hA1 := HA.out (by omega)
        subst hA1
        have hr := HH.out.sm hS.out
        have hc := hr.at_ k hlt
        have hq : IntKind.i64.wrap ((t : Int) + 1) = (t : Int) + 1 := by rw [IntKind.wrap_i64]; omega
        have hq2 : wrap64 ((t : Int) + 1) = (t : Int) + 1 := by unfold wrap64; omega
        have HW := Lib.hid (within_c (xs k) ((t : Int) + 1) (by omega) (by omega))
        clear hr
        go_wp2_with (first
          | (refine (HW.out _).mono ?_; rintro e w1 ⟨rfl, rfl⟩)
          | (at_builtin; refine wpList_append_own _ rfl (.tmp 17) (.tmp 25) 76 rfl w.heap.size 3 i0 (.int .i64 0) 1 8 Try.underlying76 Hi.out Hz0.out Hz1.out Hz2.out rfl (by decide) _ k (ordV xs t k) rfl (hown.out.alloc _) ⟨wo.heap.size, 0, none⟩ 1 1 [.int .i64 (wi (xs k) (t + 1))] rfl rfl (new_cells wo [.int .i64 (wi (xs k) (t + 1))] 3) (by simp [Value.oneCell']) (by unfold maxLen; omega) (by omega) (by have := hS.out.size; simp; omega) ?_; intro v' w4 hown4 hgr4 _))
        have n1 : Hid (w4.ownsRow w.heap.size 3 1 v' (k + 1) (ordV xs t (k + 1))) := Lib.hid (by rw [ordV_succ]; exact hown4)
        have n2 : Hid (Sm (fun _ => False) w w4) := Lib.hid (by
          have z := hS.out.size
          exact ⟨hgr4.os.trans hS.out.os, hgr4.tape.trans hS.out.tape, hgr4.output.trans hS.out.output, by have := hgr4.size; simp at this; omega, fun j hj hf => (hgr4.block j (by simp; omega) (fun e => by have := (hown.out.lt j e.symm).1; omega)).trans ((Below.heap_alloc _ _ _ (by omega)).trans (hS.out.block j hj hf))⟩)
        go_wp2
        go_roundw
        case rel => exact ⟨k + 1, by omega, by omega, by first | rw [HP.out] | go_num, n1, n2⟩
        case measure => (try rw [HP.out]); simp only [intOf]; omega
      · have j6 : ¬ (k : Int) < 2000 := by omega
        go_wp2
        go_ret
        exact ⟨_, rfl, HF.out (by omega), hS.out⟩
    · have j1 : ¬ (k : Int) < (n : Int) := by omega
      go_wp2
      go_ret
      exact ⟨_, rfl, HF.out (by omega), hS.out⟩
end Go.Proofs.Ytdedmmjmiakidaa
/- Plain words: more words for goroutine 0 beside a play; a play whose threads find what lay there before. No condition. -/
namespace Go.Proofs.Ytdedmmjmiakidaa
open Go.Conc Go.RowKit
instance gm_all {α : Sort _} {A : α → World → Prop} [h : ∀ x, GM (A x)] : GM fun u => ∀ x, A x u := ⟨fun u u' e q x => (h x).keep u u' e (q x)⟩
instance ho_hid {A : World → Prop} [h : HO A] : HO fun u => Hid (A u) := ⟨fun u u' e1 e2 e3 q => Lib.hid (h.eq u u' e1 e2 e3 q.out)⟩
instance gm_hid {A : World → Prop} [h : GM A] : GM fun u => Hid (A u) := ⟨fun u u' k q => Lib.hid (h.keep u u' k q.out)⟩
section
variable {W : Machine → Trace → Prop} {x : LX} {M : World → Prop} {w : World}
theorem Kn.pick {α : Sort _} {A : α → World → Prop} [h : ∀ a, HO (A a)] (k : Kn x (fun u => ∃ a, A a u) w) : ∃ a, Kn x (A a) w := by
  obtain ⟨u, hu, a, ha⟩ := k.get
  exact ⟨a, Kn.intro k.real hu ha⟩
theorem Kn.sep {p : Prop} (k : Kn x (fun u => p ∧ M u) w) : p ∧ Kn x M w := by
  obtain ⟨u, hu, hp, _⟩ := k.get
  exact ⟨hp, k.mono fun u hu => hu.2⟩
theorem Kn.tell (k : Kn x M w) : ∃ u : World, M u ∧ u.heap.size = w.heap.size := by
  obtain ⟨u, hu, hm⟩ := k.get
  exact ⟨u, hm, hu.size⟩
/-- A piece by its walk alone; what it comes to is told of its frame. -/
theorem aloneF {φ : World → Array Value → Prop} {M' : World → Prop} {c : Code} {t : Array Value} {Q : LX → Exit → Array Value → World → Prop} [hM : ∀ t, HO fun u => φ u t ∧ M' u] (h : Kn x M w) (hc : okCode mainOk false c = true)
    (hwp : ∀ u, M u → u.heap.size = w.heap.size → ∀ K : Act → World → Prop, (∀ a' u', a'.defers = [] → φ u' a'.tmps → M' u' → K a' u') → c.wp Try.prog (onlyK K) ⟨t, []⟩ u) (hk : ∀ t' w', Kn x (fun u => φ u t' ∧ M' u) w' → w.heap.size ≤ w'.heap.size → Q x .normal t' w') : cps (envL W) c Q x t w :=
  cps_alone (E := envL W) (n := x) (K := fun w w' => w.heap.size ≤ w'.heap.size) envL_ok (main_fit (sigL x) inferInstance) suitsL h.real hc fun u hu => wp_mono (hwp u (h.on u hu) hu.size (fun a' u' => a'.defers = [] ∧ φ u' a'.tmps ∧ M' u') fun a' u' h1 h2 h3 => ⟨h1, h2, h3⟩) fun e a' u' q => by
    cases e with
    | normal => exact ⟨rfl, q.1, fun w' h1 h2 => hk _ _ (Kn.intro (fun b hb => h1.real b hb) h1 q.2) h2⟩
    | _ => exact q.elim
/-- .. what it comes to, its frame written out. -/
theorem aloneG {α : Type} (L : α → Array Value) (ψ : α → World → Prop) [hM : ∀ a, HO (ψ a)] {c : Code} {t : Array Value} {Q : LX → Exit → Array Value → World → Prop} (h : Kn x M w) (hc : okCode mainOk false c = true)
    (hwp : ∀ u, M u → u.heap.size = w.heap.size → ∀ K : Act → World → Prop, (∀ y a' u', a'.defers = [] → a'.tmps = L y → ψ y u' → K a' u') → c.wp Try.prog (onlyK K) ⟨t, []⟩ u) (hk : ∀ y w', Kn x (ψ y) w' → w.heap.size ≤ w'.heap.size → Q x .normal (L y) w') : cps (envL W) c Q x t w :=
  aloneF (φ := fun u t => ∃ y, t = L y ∧ ψ y u) (M' := fun _ => True) h hc (fun u hu hs K hK => hwp u hu hs K fun y a' u' h1 h2 h3 => hK a' u' h1 ⟨y, h2, h3⟩ trivial) fun t' w' k hz => by
    obtain ⟨u, hu, ⟨y, rfl, hy⟩, _⟩ := k.get
    exact hk y w' (Kn.intro k.real hu hy) hz
end
theorem own_weak {w : World} {base base' : Nat} {e : TypeId} {size : Nat} {v : Value} {n : Nat} {xs : List Value} (h : w.ownsRow base e size v n xs) (hb : base' ≤ base) : w.ownsRow base' e size v n xs :=
  ⟨h.1, h.2.imp id fun ⟨g, cap, cur, h1, h2, h3⟩ => ⟨g, cap, cur, h1, Nat.le_trans hb h2, h3⟩⟩
theorem Gr.cell {u u' : World} (h : Gr u u') {a : Addr} (ha : a.block < u.heap.size) : u'.cell? a = u.cell? a := by
  unfold World.cell?
  rw [h.block a.block ha]
theorem Gr.sm {F : Nat → Prop} {u u' : World} (h : Sm F u u') (hF : ∀ b, ¬ F b) : Gr u u' := ⟨h.size, fun b hb => h.block b hb (hF b), h.os, h.output⟩
theorem Gr.sm0 {u u' : World} (h : Sm (fun _ => False) u u') : Gr u u' := Gr.sm h fun _ h => h
instance gm_ints {b off n : Nat} {xs : Nat → Int} : GM (IntsArg b off n xs) := ⟨fun u u' h q => ⟨fun j hj => (h.cell (a := ⟨b, off + j, none⟩) (q.old (by omega))).trans (q.at_ j hj), fun h0 => Nat.lt_of_lt_of_le (q.old h0) h.size⟩⟩
/-- A Gr kept by a call that touches fresh memory alone. -/
theorem GM.sm {M : World → Prop} [GM M] {u u' : World} (h : Sm (fun _ => False) u u') (q : M u) : M u' := GM.keep u u' (Gr.sm0 h) q
section
open Go.ConcR (WgAt wgBlock)
variable {Y : Core} {M : World → Prop} {B : Nat} {w w' : World} {o₀ : Own} {Wg B0 N : Nat} {a : Y.Full} {tr : List Turned} {vt : Value}
/-- What is known behind a play, where the threads keep some of what lay there before. -/
theorem Played.knX (h : Played Y Wg B0 o₀ a tr vt w') (hs : Since B M w) (hB : B ≤ Wg) (ho : ∀ b, b < B → o₀ b = w.heap[b]? ∨ ∀ u, Y.Rep a u → u.heap[b]? = w.heap[b]?) (hos : w.os = o₀.os ∧ w.output = o₀.out) (hsz : w.heap.size ≤ w'.heap.size) :
    Kn ⟨some Wg, N⟩ (fun u => Y.Rep a u ∧ u.ownsRow B0 tTurned 3 vt tr.length (tr.flatMap turnCells) ∧ Since B M u) w' := by
  refine ⟨fun b hb => ?_, fun u hu => ?_⟩
  · obtain rfl : Wg = b := Option.some.inj hb
    obtain ⟨st, sm, hw⟩ := h.wg
    exact ⟨_, hw⟩
  · have hne : ∀ b, b ≠ Wg → u.heap[b]? = w'.heap[b]? := fun b hb => hu.heap b fun hF => hb (Option.some.inj hF).symm
    have hrep : Y.Rep a u := Y.frame a w' u (fun b hb => hne b (h.foot b hb).1) h.rep
    refine ⟨hrep, ownsRow_of h.trace fun b e => hne b fun e2 => h.traceW (e2 ▸ e), ?_⟩
    obtain ⟨u0, q1, q2, q3⟩ := hs
    refine ⟨u0, q1, ⟨?_, fun b hb => ?_, ?_, ?_⟩, q3⟩
    · have := q2.size
      rw [hu.size]; omega
    · rw [← q2.block b hb]
      rcases ho b (by omega) with hk | hk
      · rw [hne b (by omega)]
        have hlt : b < w.heap.size := Nat.lt_of_lt_of_le hb q2.size
        have e1 : w.heap[b]? = some w.heap[b] := Array.getElem?_eq_getElem hlt
        rw [e1]
        exact h.old b _ (by rw [hk]; exact e1)
      · exact hk u hrep
    · rw [hu.os, h.os, ← hos.1]; exact q2.os
    · rw [hu.output, h.out, ← hos.2]; exact q2.out
end
end Go.Proofs.Ytdedmmjmiakidaa
