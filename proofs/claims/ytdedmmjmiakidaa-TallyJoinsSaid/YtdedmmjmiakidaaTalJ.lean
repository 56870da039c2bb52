/- Join by definition; tally.Join, walked alone. -/
import Derived.Test.YtdedmmjmiakidaaTalI
namespace Go.Proofs.Ytdedmmjmiakidaa
open Go.RowKit
set_option linter.unusedVariables false
set_option linter.unusedSimpArgs false

def hzero : List Nat := List.replicate 67 0
/-- The first k cells added. -/
def hup (a b : List Nat) (k : Nat) : List Nat := (List.range 67).map fun i => if i < k then (a.getD i 0 + b.getD i 0) % 18446744073709551616 else a.getD i 0
def hjoin (a b : List Nat) : List Nat := (hup a b 66).set 66 (max (a.getD 66 0) (b.getD 66 0))
def joinN (f : Nat → List Nat) : Nat → List Nat
  | 0 => hzero
  | n + 1 => hjoin (joinN f n) (f n)

theorem hup_len (a b : List Nat) (k : Nat) : (hup a b k).length = 67 := by simp [hup]
theorem hjoin_len (a b : List Nat) : (hjoin a b).length = 67 := by simp [hjoin, hup]
theorem joinN_len (f : Nat → List Nat) : ∀ n, (joinN f n).length = 67
  | 0 => by simp [joinN, hzero]
  | n + 1 => by simp [joinN, hjoin_len]
theorem hup_zero (a b : List Nat) (h : a.length = 67) : hup a b 0 = a := by
  apply List.ext_getElem
  · simp [hup, h]
  · intro i h1 h2
    simp [hup, h2]
theorem hup_getD (a b : List Nat) (k i : Nat) (hi : i < 67) : (hup a b k).getD i 0 = if i < k then (a.getD i 0 + b.getD i 0) % 18446744073709551616 else a.getD i 0 := by
  simp [hup, hi]
theorem hup_get (a b : List Nat) (k i : Nat) (hi : i < 67) : (hup a b k)[i]'(by rw [hup_len]; exact hi) = if i < k then (a.getD i 0 + b.getD i 0) % 18446744073709551616 else a.getD i 0 := by
  simp [hup]
theorem hup_set (a b : List Nat) (k : Nat) (hk : k < 67) : (hup a b k).set k ((a.getD k 0 + b.getD k 0) % 18446744073709551616) = hup a b (k + 1) := by
  apply List.ext_getElem
  · simp [hup]
  · intro i h1 h2
    have hi : i < 67 := by simpa [hup] using h2
    rw [List.getElem_set, hup_get a b (k + 1) i hi]
    split
    · rename_i e; subst e; simp
    · rename_i e
      rw [hup_get a b k i hi]
      have : i < k ↔ i < k + 1 := by omega
      simp only [this]
theorem hup_lt (a b : List Nat) (k : Nat) (ha : ∀ x ∈ a, x < 18446744073709551616) : ∀ x ∈ hup a b k, x < 18446744073709551616 := by
  intro x hx
  simp only [hup, List.mem_map, List.mem_range] at hx
  obtain ⟨i, hi, rfl⟩ := hx
  split
  · exact Nat.mod_lt _ (by decide)
  · by_cases h : i < a.length
    · have := ha _ (List.getElem_mem h)
      simpa [List.getD, h] using this
    · simp [List.getD, h]
theorem getD_lt (a : List Nat) (i : Nat) (ha : ∀ x ∈ a, x < 18446744073709551616) : a.getD i 0 < 18446744073709551616 := by
  by_cases h : i < a.length
  · have := ha _ (List.getElem_mem h)
    simpa [List.getD, h] using this
  · simp [List.getD, h]
theorem hjoin_lt (a b : List Nat) (ha : ∀ x ∈ a, x < 18446744073709551616) (hb : ∀ x ∈ b, x < 18446744073709551616) : ∀ x ∈ hjoin a b, x < 18446744073709551616 := by
  intro x hx
  rcases List.mem_or_eq_of_mem_set hx with h | h
  · exact hup_lt a b 66 ha x h
  · rw [h]
    exact Nat.max_lt.2 ⟨getD_lt a 66 ha, getD_lt b 66 hb⟩
theorem joinN_lt (f : Nat → List Nat) : ∀ n, (∀ j, j < n → ∀ x ∈ f j, x < 18446744073709551616) → ∀ x ∈ joinN f n, x < 18446744073709551616
  | 0, _ => by intro x hx; simp [joinN, hzero] at hx; omega
  | n + 1, h => hjoin_lt _ _ (joinN_lt f n (fun j hj => h j (by omega))) (h n (by omega))

/-- A slice of histograms in memory. -/
structure HisL (b off n : Nat) (f : Nat → List Nat) (w : World) : Prop where
  rng : ∀ j, j < n → w.rangeAt b (off + j * 67) (uw (f j)).toList
  len : ∀ j, j < n → (f j).length = 67
  lt : ∀ j, j < n → ∀ x ∈ f j, x < 18446744073709551616
  old : 0 < n → b < w.heap.size

theorem HisL.sm {F : Nat → Prop} {b off n : Nat} {f : Nat → List Nat} {w w' : World} (h : HisL b off n f w) (k : Sm F w w') (hF : ¬ F b) : HisL b off n f w' :=
  { h with
    rng := fun j hj i v hv => (k.cell (h.old (by omega)) hF).trans (h.rng j hj i v hv)
    old := fun h0 => Nat.lt_of_lt_of_le (h.old h0) k.size }

theorem size_h67 : (Try.prog.info? 26).map (·.size) = some 67 := by kernel_rfl
theorem wpList_load_h67 {ops : Array Oper} {rest : List Oper} {o : Oper} {a : Act} {w : World} {Q : Exit → Act → World → Prop} (hgd : o.guard = none) (x : Operand) (ho : o.op = .load 26 x)
    (b off : Nat) (hx : a.eval x = .pointer (some ⟨b, off, none⟩)) (m : List Nat) (hlen : m.length = 67) (hr : w.rangeAt b off (uw m).toList) (h : wpList Try.prog ops Q rest (a.put o.dst (.agg (uw m))) w) : wpList Try.prog ops Q (o :: rest) a w := by
  refine wpList_load_mid hgd 26 x ho b off hx (uw m).toList _ hr Try.underlying26 rfl (by rw [Array.length_toList, uw_size, hlen, size_h67]) ?_
  exact h

theorem results_h67 {fn : Func} {p : Tmp} (h : fn.results = #[.cell p 26]) (tmps : Array Value) (w : World) (b T : Nat) (m : List Nat) (hlen : m.length = 67) (hp : tmps.getD p undef = .pointer (some ⟨b, 0, none⟩)) (hr : Row w b (uw m) T) :
    (results fn tmps).run Try.prog w = .ok (.agg (uw m)) w :=
  results_cell_row h tmps w b T (uw m) (0, 0) _ hp hr Try.underlying26 rfl (by rw [uw_size, hlen, size_h67])
theorem sm_setRow {F : Nat → Prop} {a w : World} (h : Sm F a w) (g : Nat) (c : Array Value) (hg : a.heap.size ≤ g) : Sm F a (w.setRow g c) :=
  ⟨h.os, h.tape, h.output, by have := h.size; simpa [World.setRow] using this, fun k hk hf => (setRow_other w g k c (by omega)).trans (h.block k hk hf)⟩
theorem uw_isD (m : List Nat) (i : Nat) (h : i < m.length) : (uw m)[i]? = some (.int .u64 ((m.getD i 0 : Nat) : Int)) := by
  rw [uw_get m i h]; simp [List.getD, h]
theorem hjoin_of (a b : List Nat) : ((hup a b 65).set 65 ((a.getD 65 0 + b.getD 65 0) % 18446744073709551616)).set 66 (max (a.getD 66 0) (b.getD 66 0)) = hjoin a b := by
  rw [hup_set a b 65 (by decide)]; rfl

set_option maxRecDepth 100000 in
set_option maxHeartbeats 1600000 in
theorem tjoin_c (a : Option Addr) (b off n c : Nat) (f : Nat → List Nat) (ha : 0 < n → a = some ⟨b, off, none⟩) (hn : n ≤ 9223372036854775807) (w : World) (h : HisL b off n f w) :
    Calls Try.prog 10 #[.slice a n c] w fun e w' => e = .returned (.agg (uw (joinN f n))) ∧ Sm (fun _ => False) w w' := by
  go_enter Try.func10, Try.ntmps10
  go_wp2
  have q1 : Row ((w.alloc (.cells Try.zeroCells26 26)).alloc (.cells Try.zeroCells26 26)) w.heap.size (uw hzero) 26 := by
    rw [zero_ah]; exact (Row.new w _ _).alloc _
  have q2 : Row ((w.alloc (.cells Try.zeroCells26 26)).alloc (.cells Try.zeroCells26 26)) (w.heap.size + 1) (uw hzero) 26 := by
    rw [zero_ah]
    simpa [hzero] using Row.new (w.alloc (.cells (uw (List.replicate 67 0)) 26)) (uw (List.replicate 67 0)) 26
  have q3 : Sm (fun _ => False) w ((w.alloc (.cells Try.zeroCells26 26)).alloc (.cells Try.zeroCells26 26)) := ((Sm.refl _ _).alloc _).alloc _
  obtain ⟨R, hR⟩ : ∃ R, R = w.heap.size := ⟨_, rfl⟩
  obtain ⟨w1, hw1⟩ : ∃ w1, w1 = ((w.alloc (.cells Try.zeroCells26 26)).alloc (.cells Try.zeroCells26 26)) := ⟨_, rfl⟩
  rw [← hw1] at q1 q2 q3
  rw [← hw1]
  simp only [← hR] at q1 q2 q3 ⊢
  have Q1 := Lib.hid q1
  have Q2 := Lib.hid q2
  have Q3 := Lib.hid q3
  have HR := Lib.hid hR
  have HH := Lib.hid h
  have HA := Lib.hid ha
  clear q1 q2 q3 hw1 hR h ha
  go_loopw [10] (fun s10 wr => ∃ i : Nat, i ≤ n ∧ s10 = .int .i64 i ∧ Hid (Row wr (R + 1) (uw (joinN f i)) 26) ∧ Hid (Row wr R (uw hzero) 26) ∧ Hid (Sm (fun _ => False) w wr)) (fun s10 _ => n - (intOf s10).toNat)
  case atStart => exact ⟨0, by omega, rfl, Q2, Q1, Q3⟩
  case round =>
    obtain ⟨i, hi, rfl, hO, hZ, hS⟩ := hrel
    by_cases hlt : i < n
    · have j1 : (i : Int) < (n : Int) := by omega
      have hp : wrap64 ((i : Int) + 1) = ((i + 1 : Nat) : Int) := by unfold wrap64; omega
      have HP := Lib.hid hp
      clear hp
      obtain ⟨A, hA⟩ : ∃ A, A = joinN f i := ⟨_, rfl⟩
      obtain ⟨B, hB⟩ : ∃ B, B = f i := ⟨_, rfl⟩
      have hl := HH.out.sm hS.out (fun h => h)
      have hBl : B.length = 67 := by rw [hB]; exact hl.len i hlt
      have hBm : ∀ x ∈ B, x < 18446744073709551616 := by rw [hB]; exact hl.lt i hlt
      have hAm : ∀ x ∈ A, x < 18446744073709551616 := by rw [hA]; exact joinN_lt f i (fun j hj => HH.out.lt j (by omega))
      have hAl : A.length = 67 := by rw [hA]; exact joinN_len f i
      have hrng := hl.rng i hlt
      rw [← hB] at hrng
      rw [← hA] at hO
      have hnext : joinN f (i + 1) = hjoin A B := by rw [hA, hB]; rfl
      obtain rfl := HA.out (by omega)
      have HRG := Lib.hid hrng
      have HAm := Lib.hid hAm
      have HBm := Lib.hid hBm
      have HN := Lib.hid hnext
      clear hl hA hB hrng hnext hAm hBm
      go_wp2_with (first
        | refine wpList_load_h67 rfl (.tmp 12) rfl b (off + i * 67) (by simp [Act.eval, Act.put]) B hBl HRG.out ?_
        | refine wpList_store_new67 rfl (.tmp 5) (.tmp 13) rfl (by simp [Act.eval, Act.put]) B (by simp [Act.eval, Act.put]) hBl ?_
        | refine wpList_load_u65 rfl (.tmp 14) rfl wr.heap.size _ (by simp [Act.eval, Act.put]) B hBl (Row.new wr (uw B) 26) ?_)
      have r0 := hO.out.lt
      have r1 := Row.new wr (uw B) 26
      have r2 := hO.out.alloc (.cells (uw B) 26)
      have r3 := hZ.out.alloc (.cells (uw B) 26)
      have r4 := hS.out.alloc (.cells (uw B) 26)
      obtain ⟨N, hN⟩ : ∃ N, N = wr.heap.size := ⟨_, rfl⟩
      obtain ⟨w2, hw2⟩ : ∃ w2, w2 = wr.alloc (.cells (uw B) 26) := ⟨_, rfl⟩
      rw [← hw2] at r1 r2 r3 r4 ⊢
      simp only [← hN] at r0 r1 r2 r3 r4 ⊢
      have hNR : R + 1 < N := r0
      have R1 := Lib.hid r1
      have R2 := Lib.hid r2
      have R3 := Lib.hid r3
      have R4 := Lib.hid r4
      clear r0 r1 r2 r3 r4 hw2 hN hO hZ hS HRG
      go_loopw [16] (fun s16 w3 => ∃ k : Nat, k ≤ 65 ∧ s16 = .int .i64 k ∧ Hid (Row w3 (R + 1) (uw (hup A B k)) 26) ∧ Hid (Row w3 R (uw hzero) 26) ∧ Hid (Row w3 N (uw B) 26) ∧ Hid (Sm (fun _ => False) w w3)) (fun s16 _ => 65 - (intOf s16).toNat)
      case atStart => exact ⟨0, by omega, rfl, by rw [hup_zero A B hAl]; exact R2, R3, R1, R4⟩
      case round =>
        obtain ⟨k, hk, rfl, hO, hZ, hN, hS⟩ := hrel
        by_cases hk65 : k < 65
        · have j2 : (k : Int) < 65 := by omega
          have hp : wrap64 ((k : Int) + 1) = ((k + 1 : Nat) : Int) := by unfold wrap64; omega
          have HP2 := Lib.hid hp
          clear hp
          obtain ⟨x, hx⟩ : ∃ x, x = A.getD k 0 := ⟨_, rfl⟩
          obtain ⟨y, hy⟩ : ∃ y, y = B.getD k 0 := ⟨_, rfl⟩
          obtain ⟨s, hs⟩ : ∃ s, s = (x + y) % 18446744073709551616 := ⟨_, rfl⟩
          have hadd : IntKind.u64.wrap ((x : Int) + (y : Int)) = (s : Int) := by rw [IntKind.wrap_u64, hs]; omega
          have hix := index_u65 wr (B.take 65) k y hk65 (by rw [hy, uw_isD _ k (by simp; omega)]; simp [List.getD, List.getElem?_take, hk65])
          have hc : wr.cell? ⟨R + 1, k, none⟩ = some (.int .u64 (x : Int)) := by
            rw [hO.out.cell k, uw_isD _ k (by rw [hup_len]; omega), hup_getD A B k k (by omega), if_neg (by omega), hx]
          have hfz : wr.frozen? ⟨R + 1, k, none⟩ = false := hO.out.free k
          have n1 : Hid (Row (wr.setCell ⟨R + 1, k, none⟩ (.int .u64 (s : Int))) (R + 1) (uw (hup A B (k + 1))) 26) := by
            apply Lib.hid
            rw [← hup_set A B k (by omega), ← hx, ← hy, ← hs, ← uw_set]
            exact hO.out.set _ _
          have n2 : Hid (Row (wr.setCell ⟨R + 1, k, none⟩ (.int .u64 (s : Int))) R (uw hzero) 26) := Lib.hid (hZ.out.set_ne (by simp) _)
          have n3 : Hid (Row (wr.setCell ⟨R + 1, k, none⟩ (.int .u64 (s : Int))) N (uw B) 26) := Lib.hid (hN.out.set_ne (by show R + 1 ≠ N; omega) _)
          have n4 : Hid (Sm (fun _ => False) w (wr.setCell ⟨R + 1, k, none⟩ (.int .u64 (s : Int)))) := Lib.hid (hS.out.setNew (by rw [← HR.out]; show R ≤ R + 1; omega) _)
          clear hx hy hs
          go_wp2
          go_roundw
          case rel => exact ⟨k + 1, by omega, by first | rw [HP2.out] | go_num, n1, n2, n3, n4⟩
          case measure => (try rw [HP2.out]); simp only [intOf]; omega
        · have hkk : k = 65 := by omega
          subst hkk
          have j2 : ¬ (65 : Int) < 65 := by omega
          obtain ⟨x, hx⟩ : ∃ x, x = A.getD 65 0 := ⟨_, rfl⟩
          obtain ⟨y, hy⟩ : ∃ y, y = B.getD 65 0 := ⟨_, rfl⟩
          obtain ⟨s, hs⟩ : ∃ s, s = (x + y) % 18446744073709551616 := ⟨_, rfl⟩
          have hadd : IntKind.u64.wrap ((x : Int) + (y : Int)) = (s : Int) := by rw [IntKind.wrap_u64, hs]; omega
          have hc : wr.cell? ⟨R + 1, 65, none⟩ = some (.int .u64 (x : Int)) := by
            rw [hO.out.cell 65, uw_isD _ 65 (by rw [hup_len]; omega), hup_getD A B 65 65 (by omega), if_neg (by omega), hx]
          have hc2 : wr.cell? ⟨N, 65, none⟩ = some (.int .u64 (y : Int)) := by
            rw [hN.out.cell 65, uw_isD _ 65 (by omega), hy]
          have hfz : wr.frozen? ⟨R + 1, 65, none⟩ = false := hO.out.free 65
          obtain ⟨x6, hx6⟩ : ∃ x, x = A.getD 66 0 := ⟨_, rfl⟩
          obtain ⟨y6, hy6⟩ : ∃ y, y = B.getD 66 0 := ⟨_, rfl⟩
          obtain ⟨w4, hw4⟩ : ∃ w4, w4 = wr.setCell ⟨R + 1, 65, none⟩ (.int .u64 (s : Int)) := ⟨_, rfl⟩
          have m1 : Row w4 (R + 1) (uw ((hup A B 65).set 65 s)) 26 := by rw [hw4, ← uw_set]; exact hO.out.set _ _
          have m2 : Row w4 R (uw hzero) 26 := by rw [hw4]; exact hZ.out.set_ne (by simp) _
          have m3 : Row w4 N (uw B) 26 := by rw [hw4]; exact hN.out.set_ne (by show R + 1 ≠ N; omega) _
          have m4 : Sm (fun _ => False) w w4 := by rw [hw4]; exact hS.out.setNew (by rw [← HR.out]; show R ≤ R + 1; omega) _
          have d1 : w4.cell? ⟨R + 1, 66, none⟩ = some (.int .u64 (x6 : Int)) := by
            rw [m1.cell 66, uw_isD _ 66 (by simp [hup_len])]
            have : ((hup A B 65).set 65 s).getD 66 0 = (hup A B 65).getD 66 0 := by simp [List.getD, List.getElem?_set_ne]
            rw [this, hup_getD A B 65 66 (by omega), if_neg (by omega), hx6]
          have d2 : w4.cell? ⟨N, 66, none⟩ = some (.int .u64 (y6 : Int)) := by
            rw [m3.cell 66, uw_isD _ 66 (by omega), hy6]
          have d3 : w4.frozen? ⟨R + 1, 66, none⟩ = false := m1.free 66
          rw [hw4] at d1 d2 d3
          have HS := Lib.hid hs
          have HX := Lib.hid hx
          have HY := Lib.hid hy
          have HX6 := Lib.hid hx6
          have HY6 := Lib.hid hy6
          have M1 := Lib.hid m1
          have M2 := Lib.hid m2
          have M4 := Lib.hid m4
          have HW4 := Lib.hid hw4
          clear hs hx hy hx6 hy6 m1 m2 m3 m4 hw4 hO hZ hN hS
          go_wp2
          have e6 : (max (x6 : Int) (y6 : Int)) = ((max x6 y6 : Nat) : Int) := by omega
          rw [e6, ← HW4.out]
          have n1 : Hid (Row (w4.setCell ⟨R + 1, 66, none⟩ (.int .u64 ((max x6 y6 : Nat) : Int))) (R + 1) (uw (joinN f (i + 1))) 26) := by
            apply Lib.hid
            rw [HN.out, ← hjoin_of, ← HX.out, ← HY.out, ← HS.out, ← HX6.out, ← HY6.out, ← uw_set]
            exact M1.out.set _ _
          have n2 : Hid (Row (w4.setCell ⟨R + 1, 66, none⟩ (.int .u64 ((max x6 y6 : Nat) : Int))) R (uw hzero) 26) := Lib.hid (M2.out.set_ne (by simp) _)
          have n4 : Hid (Sm (fun _ => False) w (w4.setCell ⟨R + 1, 66, none⟩ (.int .u64 ((max x6 y6 : Nat) : Int)))) := Lib.hid (M4.out.setNew (by rw [← HR.out]; show R ≤ R + 1; omega) _)
          go_roundw
          case rel => exact ⟨i + 1, by omega, by first | rw [HP.out] | go_num, n1, n2, n4⟩
          case measure => (try rw [HP.out]); simp only [intOf]; omega
    · have hii : i = n := by omega
      subst hii
      have j1 : ¬ (i : Int) < (i : Int) := by omega
      go_wp2_with (first
        | refine wpList_load_u67 rfl (.tmp 3) rfl (R + 1) _ (by simp [Act.eval, Act.put]) (joinN f i) (joinN_len f i) hO.out ?_
        | refine wpList_store_u67 rfl (.tmp 2) (.tmp 42) rfl R _ (by simp [Act.eval, Act.put]) hzero (joinN f i) (by simp [Act.eval, Act.put]) (by simp [hzero]) (joinN_len f i) hZ.out ?_)
      refine bodyPost_ret (results_h67 rfl _ _ R _ (joinN f i) (joinN_len f i) rfl hZ.out.setRow) rfl ?_
      exact ⟨rfl, sm_setRow hS.out R _ (by rw [← HR.out]; exact Nat.le_refl _)⟩
end Go.Proofs.Ytdedmmjmiakidaa
