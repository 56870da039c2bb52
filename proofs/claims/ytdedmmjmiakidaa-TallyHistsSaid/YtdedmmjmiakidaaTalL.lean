/- patchbayref11.Join, walked alone. -/
import Derived.Test.YtdedmmjmiakidaaTalJ
import Derived.BigRegion
namespace Go.Proofs.Ytdedmmjmiakidaa
open Go.RowKit
set_option linter.unusedVariables false
set_option linter.unusedSimpArgs false

set_option maxRecDepth 100000 in
set_option maxHeartbeats 1600000 in
theorem rjoin_c (a : Option Addr) (b off n c : Nat) (f : Nat → List Nat) (ha : 0 < n → a = some ⟨b, off, none⟩) (hn : n ≤ 9223372036854775807) (w : World) (h : HisL b off n f w) :
    Calls Try.prog 11 #[.slice a n c] w fun e w' => e = .returned (.agg (uw (joinN f n))) ∧ Sm (fun _ => False) w w' := by
  go_enter Try.func11, Try.ntmps11
  go_wp2
  have q1 : Row ((w.alloc (.cells Try.zeroCells26 26)).alloc (.cells Try.zeroCells26 26)) w.heap.size (uw hzero) 26 := by
    rw [zero_ah]; exact (Row.new w _ _).alloc _
  have q2 : Row ((w.alloc (.cells Try.zeroCells26 26)).alloc (.cells Try.zeroCells26 26)) (w.heap.size + 1) (uw hzero) 26 := by
    rw [zero_ah]
    simpa [hzero] using Row.new (w.alloc (.cells (uw (List.replicate 67 0)) 26)) (uw (List.replicate 67 0)) 26
  have q3 : Sm (fun _ => False) w ((w.alloc (.cells Try.zeroCells26 26)).alloc (.cells Try.zeroCells26 26)) := ((Sm.refl _ _).alloc _).alloc _
  obtain ⟨R, hR⟩ : ∃ R, R = w.heap.size := ⟨_, rfl⟩
  obtain ⟨w1, hw1⟩ : ∃ w1, w1 = ((w.alloc (.cells Try.zeroCells26 26)).alloc (.cells Try.zeroCells26 26)) := ⟨_, rfl⟩
  rw [← hw1] at q1 q2 q3
  rw [← hw1]
  simp only [← hR] at q1 q2 q3 ⊢
  have Q1 := Lib.hid q1
  have Q2 := Lib.hid q2
  have Q3 := Lib.hid q3
  have HR := Lib.hid hR
  have HH := Lib.hid h
  have HA := Lib.hid ha
  clear q1 q2 q3 hw1 hR h ha
  go_loopw [4] (fun s10 wr => ∃ i : Nat, i ≤ n ∧ s10 = .int .i64 i ∧ Hid (Row wr (R + 1) (uw (joinN f i)) 26) ∧ Hid (Row wr R (uw hzero) 26) ∧ Hid (Sm (fun _ => False) w wr)) (fun s10 _ => n - (intOf s10).toNat)
  case atStart => exact ⟨0, by omega, rfl, Q2, Q1, Q3⟩
  case round =>
    obtain ⟨i, hi, rfl, hO, hZ, hS⟩ := hrel
    by_cases hlt : i < n
    · have j1 : (i : Int) < (n : Int) := by omega
      have hp : wrap64 ((i : Int) + 1) = ((i + 1 : Nat) : Int) := by unfold wrap64; omega
      have HP := Lib.hid hp
      clear hp
      obtain ⟨A, hA⟩ : ∃ A, A = joinN f i := ⟨_, rfl⟩
      obtain ⟨B, hB⟩ : ∃ B, B = f i := ⟨_, rfl⟩
      have hl := HH.out.sm hS.out (fun h => h)
      have hBl : B.length = 67 := by rw [hB]; exact hl.len i hlt
      have hBm : ∀ x ∈ B, x < 18446744073709551616 := by rw [hB]; exact hl.lt i hlt
      have hAm : ∀ x ∈ A, x < 18446744073709551616 := by rw [hA]; exact joinN_lt f i (fun j hj => HH.out.lt j (by omega))
      have hAl : A.length = 67 := by rw [hA]; exact joinN_len f i
      have hrng := hl.rng i hlt
      rw [← hB] at hrng
      rw [← hA] at hO
      have hnext : joinN f (i + 1) = hjoin A B := by rw [hA, hB]; rfl
      obtain rfl := HA.out (by omega)
      have HRG := Lib.hid hrng
      have HAm := Lib.hid hAm
      have HBm := Lib.hid hBm
      have HN := Lib.hid hnext
      clear hl hA hB hrng hnext hAm hBm
      have hNeq : b ≠ R + 1 ∧ b ≠ R := by
        have := HH.out.old (by omega)
        rw [← HR.out] at this
        omega
      have HBR := HRG
      go_wp2
      go_loopw [5] (fun s5 wr => ∃ k : Nat, k ≤ 65 ∧ s5 = .int .i64 k ∧ Hid (Row wr (R + 1) (uw (hup A B k)) 26) ∧ Hid (Row wr R (uw hzero) 26) ∧ Hid (wr.rangeAt b (off + i * 67) (uw B).toList) ∧ Hid (Sm (fun _ => False) w wr)) (fun s5 _ => 65 - (intOf s5).toNat)
      case atStart => exact ⟨0, by omega, rfl, by rw [hup_zero A B hAl]; exact hO, hZ, HRG, hS⟩
      case round =>
        obtain ⟨k, hk, rfl, hO, hZ, hB, hS⟩ := hrel
        by_cases hk65 : k < 65
        · have j2 : (k : Int) < 65 := by omega
          have hp : wrap64 ((k : Int) + 1) = ((k + 1 : Nat) : Int) := by unfold wrap64; omega
          have HP2 := Lib.hid hp
          clear hp
          obtain ⟨x, hx⟩ : ∃ x, x = A.getD k 0 := ⟨_, rfl⟩
          obtain ⟨y, hy⟩ : ∃ y, y = B.getD k 0 := ⟨_, rfl⟩
          obtain ⟨s, hs⟩ : ∃ s, s = (x + y) % 18446744073709551616 := ⟨_, rfl⟩
          have hadd : IntKind.u64.wrap ((x : Int) + (y : Int)) = (s : Int) := by rw [IntKind.wrap_u64, hs]; omega
          have hc : wr.cell? ⟨R + 1, k, none⟩ = some (.int .u64 (x : Int)) := by
            rw [hO.out.cell k, uw_isD _ k (by rw [hup_len]; omega), hup_getD A B k k (by omega), if_neg (by omega), hx]
          have hc2 : wr.cell? ⟨b, off + i * 67 + k, none⟩ = some (.int .u64 (y : Int)) := hB.out k _ (by rw [Array.getElem?_toList, uw_isD _ k (by omega), hy])
          have hfz : wr.frozen? ⟨R + 1, k, none⟩ = false := hO.out.free k
          have n1 : Hid (Row (wr.setCell ⟨R + 1, k, none⟩ (.int .u64 (s : Int))).drew (R + 1) (uw (hup A B (k + 1))) 26) := by
            apply Lib.hid
            rw [← hup_set A B k (by omega), ← hx, ← hy, ← hs, ← uw_set]
            exact (hO.out.set _ _).drew
          have n2 : Hid (Row (wr.setCell ⟨R + 1, k, none⟩ (.int .u64 (s : Int))).drew R (uw hzero) 26) := Lib.hid (hZ.out.set_ne (by simp) _).drew
          have n3 : Hid ((wr.setCell ⟨R + 1, k, none⟩ (.int .u64 (s : Int))).drew.rangeAt b (off + i * 67) (uw B).toList) := Lib.hid (fun j v hv => (World.cell?_of_block (w := wr) (a := ⟨b, off + i * 67 + j, none⟩) (Below.heap_setCell _ _ _ _ hNeq.1)).trans (hB.out j v hv))
          have n4 : Hid (Sm (fun _ => False) w (wr.setCell ⟨R + 1, k, none⟩ (.int .u64 (s : Int))).drew) := Lib.hid (hS.out.setNew (by rw [← HR.out]; show R ≤ R + 1; omega) _).drew
          clear hx hy hs
          go_wp2
          go_region
          go_wp2
          go_roundw
          case rel => exact ⟨k + 1, by omega, by first | rw [HP2.out] | go_num, n1, n2, n3, n4⟩
          case measure => (try rw [HP2.out]); simp only [intOf]; omega
        · have hkk : k = 65 := by omega
          subst hkk
          have j2 : ¬ (65 : Int) < 65 := by omega
          obtain ⟨x, hx⟩ : ∃ x, x = A.getD 65 0 := ⟨_, rfl⟩
          obtain ⟨y, hy⟩ : ∃ y, y = B.getD 65 0 := ⟨_, rfl⟩
          obtain ⟨s, hs⟩ : ∃ s, s = (x + y) % 18446744073709551616 := ⟨_, rfl⟩
          have hadd : IntKind.u64.wrap ((x : Int) + (y : Int)) = (s : Int) := by rw [IntKind.wrap_u64, hs]; omega
          have hc : wr.cell? ⟨R + 1, 65, none⟩ = some (.int .u64 (x : Int)) := by
            rw [hO.out.cell 65, uw_isD _ 65 (by rw [hup_len]; omega), hup_getD A B 65 65 (by omega), if_neg (by omega), hx]
          have hc2 : wr.cell? ⟨b, off + i * 67 + 65, none⟩ = some (.int .u64 (y : Int)) := hB.out 65 _ (by rw [Array.getElem?_toList, uw_isD _ 65 (by omega), hy])
          have hfz : wr.frozen? ⟨R + 1, 65, none⟩ = false := hO.out.free 65
          obtain ⟨x6, hx6⟩ : ∃ x, x = A.getD 66 0 := ⟨_, rfl⟩
          obtain ⟨y6, hy6⟩ : ∃ y, y = B.getD 66 0 := ⟨_, rfl⟩
          obtain ⟨w4, hw4⟩ : ∃ w4, w4 = (wr.setCell ⟨R + 1, 65, none⟩ (.int .u64 (s : Int))).drew := ⟨_, rfl⟩
          have m1 : Row w4 (R + 1) (uw ((hup A B 65).set 65 s)) 26 := by rw [hw4, ← uw_set]; exact (hO.out.set _ _).drew
          have m2 : Row w4 R (uw hzero) 26 := by rw [hw4]; exact (hZ.out.set_ne (by simp) _).drew
          have m3 : w4.rangeAt b (off + i * 67) (uw B).toList := by
            rw [hw4]
            exact fun j v hv => (World.cell?_of_block (w := wr) (a := ⟨b, off + i * 67 + j, none⟩) (Below.heap_setCell _ _ _ _ hNeq.1)).trans (hB.out j v hv)
          have m4 : Sm (fun _ => False) w w4 := by rw [hw4]; exact (hS.out.setNew (by rw [← HR.out]; show R ≤ R + 1; omega) _).drew
          have d1 : w4.cell? ⟨R + 1, 66, none⟩ = some (.int .u64 (x6 : Int)) := by
            rw [m1.cell 66, uw_isD _ 66 (by simp [hup_len])]
            have : ((hup A B 65).set 65 s).getD 66 0 = (hup A B 65).getD 66 0 := by simp [List.getD, List.getElem?_set_ne]
            rw [this, hup_getD A B 65 66 (by omega), if_neg (by omega), hx6]
          have d2 : w4.cell? ⟨b, off + i * 67 + 66, none⟩ = some (.int .u64 (y6 : Int)) := m3 66 _ (by rw [Array.getElem?_toList, uw_isD _ 66 (by omega), hy6])
          have d3 : w4.frozen? ⟨R + 1, 66, none⟩ = false := m1.free 66
          have HS := Lib.hid hs
          have HX := Lib.hid hx
          have HY := Lib.hid hy
          have HX6 := Lib.hid hx6
          have HY6 := Lib.hid hy6
          have M1 := Lib.hid m1
          have M2 := Lib.hid m2
          have M4 := Lib.hid m4
          have HW4 := Lib.hid hw4
          have D1 := Lib.hid d1
          have D2 := Lib.hid d2
          have D3 := Lib.hid d3
          clear hs hx hy hx6 hy6 m1 m2 m3 m4 hw4 hO hZ hS d1 d2 d3
          go_wp2
          go_region
          rw [← HW4.out]
          have d1 := D1.out
          have d2 := D2.out
          have d3 := D3.out
          by_cases hgt : (x6 : Int) < (y6 : Int)
          · go_wp2
            go_quiet (fail)
            go_wp2
            have e6 : y6 = max x6 y6 := by omega
            have n1 : ∀ q, Hid (Row ((w4.drewN q).setCell ⟨R + 1, 66, none⟩ (.int .u64 (y6 : Int))) (R + 1) (uw (joinN f (i + 1))) 26) := by
              intro q
              apply Lib.hid
              rw [HN.out, ← hjoin_of, ← HX.out, ← HY.out, ← HS.out, ← HX6.out, ← HY6.out, ← e6, ← uw_set]
              exact (M1.out.drewN q).set _ _
            have n2 : ∀ q, Hid (Row ((w4.drewN q).setCell ⟨R + 1, 66, none⟩ (.int .u64 (y6 : Int))) R (uw hzero) 26) := fun q => Lib.hid ((M2.out.drewN q).set_ne (by simp) _)
            have n4 : ∀ q, Hid (Sm (fun _ => False) w ((w4.drewN q).setCell ⟨R + 1, 66, none⟩ (.int .u64 (y6 : Int)))) := fun q => Lib.hid ((M4.out.drewN q).setNew (by rw [← HR.out]; show R ≤ R + 1; omega) _)
            go_roundw
            case rel => exact ⟨i + 1, by omega, by first | rw [HP.out] | go_num, n1 _, n2 _, n4 _⟩
            case measure => (try rw [HP.out]); simp only [intOf]; omega
          · go_wp2
            go_quiet (fail)
            go_wp2
            have e6 : x6 = max x6 y6 := by omega
            have n1 : ∀ q, Hid (Row (w4.drewN q) (R + 1) (uw (joinN f (i + 1))) 26) := by
              intro q
              apply Lib.hid
              have h66 : 66 < ((hup A B 65).set 65 s).length := by simp [hup_len]
              have e7 : ((hup A B 65).set 65 s)[66]'h66 = x6 := by
                rw [List.getElem_set_ne (by omega), hup_get A B 65 66 (by omega), if_neg (by omega), ← HX6.out]
              have e8 : ((hup A B 65).set 65 s).set 66 x6 = (hup A B 65).set 65 s := by
                rw [← e7]; exact List.set_getElem_self h66
              rw [HN.out, ← hjoin_of, ← HX.out, ← HY.out, ← HS.out, ← HX6.out, ← HY6.out, ← e6, e8]
              exact M1.out.drewN q
            have n2 : ∀ q, Hid (Row (w4.drewN q) R (uw hzero) 26) := fun q => Lib.hid (M2.out.drewN q)
            have n4 : ∀ q, Hid (Sm (fun _ => False) w (w4.drewN q)) := fun q => Lib.hid (M4.out.drewN q)
            go_roundw
            case rel => exact ⟨i + 1, by omega, by first | rw [HP.out] | go_num, n1 _, n2 _, n4 _⟩
            case measure => (try rw [HP.out]); simp only [intOf]; omega
    · have hii : i = n := by omega
      subst hii
      have j1 : ¬ (i : Int) < (i : Int) := by omega
      go_wp2_with (first
        | refine wpList_load_u67 rfl (.tmp 3) rfl (R + 1) _ (by simp [Act.eval, Act.put]) (joinN f i) (joinN_len f i) hO.out ?_
        | refine wpList_store_u67 rfl (.tmp 2) (.tmp 54) rfl R _ (by simp [Act.eval, Act.put]) hzero (joinN f i) (by simp [Act.eval, Act.put]) (by simp [hzero]) (joinN_len f i) hZ.out ?_)
      refine bodyPost_ret (results_h67 rfl _ _ R _ (joinN f i) (joinN_len f i) rfl hZ.out.setRow) rfl ?_
      exact ⟨rfl, sm_setRow hS.out R _ (by rw [← HR.out]; exact Nat.le_refl _)⟩
end Go.Proofs.Ytdedmmjmiakidaa
