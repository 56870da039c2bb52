/- patchbaylaw11.few, walked alone: at most six rows of numbers, each cut. -/
import Derived.Test.YtdedmmjmiakidaaTalJ
namespace Go.Proofs.Ytdedmmjmiakidaa
open Go.RowKit
set_option linter.unusedVariables false
set_option linter.unusedSimpArgs false

/-- A row of numbers that lies in memory. -/
def GoodRow (most : Nat) (w : World) (u : Value) : Prop :=
  ∃ (a : Option Addr) (l c : Nat), u = .slice a l c ∧ l ≤ most ∧ l ≤ c ∧ ∀ j, j < l → ∃ b o x, a = some ⟨b, o, none⟩ ∧ b < w.heap.size ∧ x < 18446744073709551616 ∧ w.cell? ⟨b, o + j, none⟩ = some (.int .u64 ((x : Nat) : Int))

theorem GoodRow.sm {most : Nat} {w w' : World} {u : Value} (h : GoodRow most w u) (k : Sm (fun _ => False) w w') : GoodRow most w' u := by
  obtain ⟨a, l, c, rfl, h1, h2, h3⟩ := h
  refine ⟨a, l, c, rfl, h1, h2, fun j hj => ?_⟩
  obtain ⟨b, o, x, h4, h5, h6, h7⟩ := h3 j hj
  exact ⟨b, o, x, h4, Nat.lt_of_lt_of_le h5 k.size, h6, (k.cell h5 (fun h => h)).trans h7⟩

theorem GoodRow.cut {m1 most : Nat} {w : World} {a : Option Addr} {l c : Nat} (h : GoodRow m1 w (.slice a l c)) (k : Nat) (hk : k ≤ most) (hl : k ≤ l) : GoodRow most w (.slice a k c) := by
  obtain ⟨a', l', c', e, h1, h2, h3⟩ := h
  simp only [Value.slice.injEq] at e
  obtain ⟨rfl, rfl, rfl⟩ := e
  exact ⟨a, k, c, rfl, hk, by omega, fun j hj => h3 j (by omega)⟩

/-- The rows of an argument. -/
structure RowsArg (b off n : Nat) (V : Nat → Value) (w : World) : Prop where
  hd : ∀ r, r < n → w.cell? ⟨b, off + r, none⟩ = some (V r)
  ok : ∀ r, r < n → ∃ m, GoodRow m w (V r)
  old : 0 < n → b < w.heap.size
theorem RowsArg.sm {b off n : Nat} {V : Nat → Value} {w w' : World} (h : RowsArg b off n V w) (k : Sm (fun _ => False) w w') : RowsArg b off n V w' :=
  ⟨fun r hr => (k.cell (h.old (by omega)) (fun h => h)).trans (h.hd r hr), fun r hr => (h.ok r hr).elim fun m hm => ⟨m, hm.sm k⟩, fun h0 => Nat.lt_of_lt_of_le (h.old h0) k.size⟩

theorem info_row : (Try.prog.info? 38).map (fun i => (i.zero, i.size, i.bytes)) = some (some (.slice none 0 0), 1, 24) := by kernel_rfl

set_option maxRecDepth 100000 in
set_option maxHeartbeats 1600000 in
theorem few_c (a : Option Addr) (b off n c most : Nat) (V : Nat → Value) (ha : 0 < n → a = some ⟨b, off, none⟩) (hn : n ≤ 9223372036854775807) (hm : most ≤ 1000) (h1 : 0 < most) (w : World) (h : RowsArg b off n V w) :
    Calls Try.prog 15 #[.slice a n c, .int .i64 most] w fun e w' =>
      ∃ v xs, e = .returned v ∧ w'.ownsRow w.heap.size 38 1 v xs.length xs ∧ 0 < xs.length ∧ xs.length ≤ 6 ∧ (∀ u ∈ xs, GoodRow most w' u) ∧ Sm (fun _ => False) w w' := by
  obtain ⟨i0, hi, hz0, hz1, hz2⟩ := info_parts info_row
  have Hi := Lib.hid hi
  have Hz0 := Lib.hid hz0
  have Hz1 := Lib.hid hz1
  have Hz2 := Lib.hid hz2
  have HH := Lib.hid h
  have HA := Lib.hid ha
  clear hi hz0 hz1 hz2 h ha
  go_enter Try.func15, Try.ntmps15
  go_wp2
  go_loopw [5, 6] (fun s5 s6 wr => ∃ k : Nat, k ≤ n ∧ k ≤ 6 ∧ s6 = .int .i64 k ∧ (∃ xs : List Value, xs.length = k ∧ Hid (wr.ownsRow w.heap.size 38 1 s5 k xs) ∧ Hid (∀ u ∈ xs, GoodRow most w u)) ∧ Hid (Sm (fun _ => False) w wr)) (fun s5 s6 _ => n - (intOf s6).toNat)
  case atStart => exact ⟨0, by omega, by omega, rfl, ⟨[], rfl, Lib.hid (World.ownsRow_nil _ _ _ _), Lib.hid (by simp)⟩, Lib.hid (Sm.refl _ _)⟩
  case round =>
    obtain ⟨k, hk, hk6, rfl, ⟨xs, hxl, hown, hgood⟩, hS⟩ := hrel
    by_cases hlt : k < n
    · have j1 : (k : Int) < (n : Int) := by omega
      by_cases h6 : k < 6
      · have j6 : (k : Int) < 6 := by omega
        have hp : wrap64 ((k : Int) + 1) = ((k + 1 : Nat) : Int) := by unfold wrap64; omega
        have HP := Lib.hid hp
        clear hp
        have hA1 := HA.out (by omega)
        subst hA1
        have hr := HH.out.sm hS.out
        have hc := hr.hd k hlt
        obtain ⟨m1, hg⟩ := HH.out.ok k hlt
        obtain ⟨ra, rl, rc, hV, hrl, hrc, hrd⟩ := hg
        rw [hV] at hc
        have HV := Lib.hid (show GoodRow m1 w (.slice ra rl rc) from ⟨ra, rl, rc, rfl, hrl, hrc, hrd⟩)
        obtain ⟨a5, c5, hv5⟩ := own_form0 hown.out
        subst hv5
        clear hr hrd hV
        by_cases hbig : (most : Int) < (rl : Int)
        · skip
          go_wp2_with (at_builtin; refine wpList_append_own _ rfl (.tmp 29) (.tmp 31) 34 rfl w.heap.size 38 i0 (.slice none 0 0) 1 24 Try.underlying34 Hi.out Hz0.out Hz1.out Hz2.out rfl (by decide) _ k xs rfl (hown.out.alloc _) ⟨wr.heap.size, 0, none⟩ 1 1 [.slice ra most rc] rfl rfl (new_cells wr [.slice ra most rc] 38) (by simp [Value.oneCell']) (by unfold maxLen; omega) (by omega) (by have := hS.out.size; simp; omega) ?_; intro v' w4 hown4 hgr4 _)
          have n1 : Hid (w4.ownsRow w.heap.size 38 1 v' (k + 1) (xs ++ [.slice ra most rc])) := Lib.hid hown4
          have n2 : Hid (∀ u ∈ xs ++ [.slice ra most rc], GoodRow most w u) := Lib.hid (fun u hu => by
            rcases List.mem_append.1 hu with h | h
            · exact hgood.out u h
            · rw [List.mem_singleton.1 h]
              have hg := HV.out
              exact hg.cut most (Nat.le_refl _) (by omega))
          have n3 : Hid (Sm (fun _ => False) w w4) := Lib.hid (by
            have z := hS.out.size
            exact ⟨hgr4.os.trans hS.out.os, hgr4.tape.trans hS.out.tape, hgr4.output.trans hS.out.output, by have := hgr4.size; simp at this; omega, fun j hj hf => (hgr4.block j (by simp; omega) (fun e => by have := (hown.out.lt j e.symm).1; omega)).trans ((Below.heap_alloc _ _ _ (by omega)).trans (hS.out.block j hj hf))⟩)
          go_wp2
          go_roundw
          case rel => exact ⟨k + 1, by omega, by omega, by first | rw [HP.out] | go_num, ⟨_, by simp [hxl], n1, n2⟩, n3⟩
          case measure => (try rw [HP.out]); simp only [intOf]; omega
        · skip
          go_wp2_with (at_builtin; refine wpList_append_own _ rfl (.tmp 29) (.tmp 31) 34 rfl w.heap.size 38 i0 (.slice none 0 0) 1 24 Try.underlying34 Hi.out Hz0.out Hz1.out Hz2.out rfl (by decide) _ k xs rfl (hown.out.alloc _) ⟨wr.heap.size, 0, none⟩ 1 1 [.slice ra rl rc] rfl rfl (new_cells wr [.slice ra rl rc] 38) (by simp [Value.oneCell']) (by unfold maxLen; omega) (by omega) (by have := hS.out.size; simp; omega) ?_; intro v' w4 hown4 hgr4 _)
          have n1 : Hid (w4.ownsRow w.heap.size 38 1 v' (k + 1) (xs ++ [.slice ra rl rc])) := Lib.hid hown4
          have n2 : Hid (∀ u ∈ xs ++ [.slice ra rl rc], GoodRow most w u) := Lib.hid (fun u hu => by
            rcases List.mem_append.1 hu with h | h
            · exact hgood.out u h
            · rw [List.mem_singleton.1 h]
              have hg := HV.out
              exact hg.cut rl (by omega) (Nat.le_refl _))
          have n3 : Hid (Sm (fun _ => False) w w4) := Lib.hid (by
            have z := hS.out.size
            exact ⟨hgr4.os.trans hS.out.os, hgr4.tape.trans hS.out.tape, hgr4.output.trans hS.out.output, by have := hgr4.size; simp at this; omega, fun j hj hf => (hgr4.block j (by simp; omega) (fun e => by have := (hown.out.lt j e.symm).1; omega)).trans ((Below.heap_alloc _ _ _ (by omega)).trans (hS.out.block j hj hf))⟩)
          go_wp2
          go_roundw
          case rel => exact ⟨k + 1, by omega, by omega, by first | rw [HP.out] | go_num, ⟨_, by simp [hxl], n1, n2⟩, n3⟩
          case measure => (try rw [HP.out]); simp only [intOf]; omega
      · have j6 : ¬ (k : Int) < 6 := by omega
        have hk0 : 0 < k := by omega
        obtain ⟨a5, c5, hv5⟩ := own_form0 hown.out
        subst hv5
        have HO := Lib.hid (show wr.ownsRow w.heap.size 38 1 (.slice a5 k c5) xs.length xs by rw [hxl]; exact hown.out)
        have hkz : ((k : Int) == 0) = false := by rw [beq_eq_false_iff_ne]; omega
        go_wp2
        go_ret
        exact ⟨_, rfl, xs, HO.out, by omega, by omega, fun u hu => (hgood.out u hu).sm hS.out, hS.out⟩
    · have j1 : ¬ (k : Int) < (n : Int) := by omega
      by_cases hk0 : 0 < k
      · skip
        obtain ⟨a5, c5, hv5⟩ := own_form0 hown.out
        subst hv5
        have HO := Lib.hid (show wr.ownsRow w.heap.size 38 1 (.slice a5 k c5) xs.length xs by rw [hxl]; exact hown.out)
        have hkz : ((k : Int) == 0) = false := by rw [beq_eq_false_iff_ne]; omega
        go_wp2
        go_ret
        exact ⟨_, rfl, xs, HO.out, by omega, by omega, fun u hu => (hgood.out u hu).sm hS.out, hS.out⟩
      · obtain rfl : k = 0 := by omega
        obtain rfl : xs = [] := List.eq_nil_of_length_eq_zero hxl
        obtain ⟨a5, c5, hv5⟩ := own_form0 hown.out
        subst hv5
        go_wp2_with (at_builtin; refine wpList_append_own _ rfl (.tmp 36) (.tmp 38) 34 rfl w.heap.size 38 i0 (.slice none 0 0) 1 24 Try.underlying34 Hi.out Hz0.out Hz1.out Hz2.out rfl (by decide) _ 0 [] rfl ((hown.out.alloc _).alloc _) ⟨wr.heap.size + 1, 0, none⟩ 1 1 [.slice (some ⟨wr.heap.size, 0, none⟩) 1 1] rfl rfl (by have := new_cells (wr.alloc (.cells #[.int .u64 1] 23)) [.slice (some ⟨wr.heap.size, 0, none⟩) 1 1] 38; simpa using this) (by simp [Value.oneCell']) (by unfold maxLen; omega) (by omega) (by have := hS.out.size; simp; omega) ?_; intro v' w4 hown4 hgr4 _)
        have z := hS.out.size
        have e1 : Row w4 wr.heap.size #[.int .u64 1] 23 := by
          have r := ((Row.new wr #[.int .u64 1] 23).alloc (.cells #[.slice (some ⟨wr.heap.size, 0, none⟩) 1 1] 38 (0, 0)))
          exact r.grown hgr4 (fun e => by have := (hown.out.lt _ e).2; omega)
        have g1 : GoodRow most w4 (.slice (some ⟨wr.heap.size, 0, none⟩) 1 1) := by
          refine ⟨_, 1, 1, rfl, by omega, by omega, fun j hj => ⟨wr.heap.size, 0, 1, rfl, e1.lt, by omega, ?_⟩⟩
          obtain rfl : j = 0 := by omega
          exact e1.cell 0
        have n3 : Sm (fun _ => False) w w4 :=
          ⟨hgr4.os.trans hS.out.os, hgr4.tape.trans hS.out.tape, hgr4.output.trans hS.out.output, by have := hgr4.size; simp at this; omega, fun j hj hf => (hgr4.block j (by simp; omega) (fun e => by have := (hown.out.lt j e.symm).1; omega)).trans ((Below.heap_alloc _ _ _ (by simp; omega)).trans ((Below.heap_alloc _ _ _ (by omega)).trans (hS.out.block j hj hf)))⟩
        go_wp2
        go_ret
        exact ⟨_, rfl, [.slice (some ⟨wr.heap.size, 0, none⟩) 1 1], hown4, by simp, by simp, by simpa using g1, n3⟩
end Go.Proofs.Ytdedmmjmiakidaa
