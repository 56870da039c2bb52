/- patchbaylaw11.TallyNames, walked alone: true. -/
import Derived.Test.YtdedmmjmiakidaaTalN
namespace Go.Proofs.Ytdedmmjmiakidaa
open Go.RowKit
set_option linter.unusedVariables false
set_option linter.unusedSimpArgs false

theorem zero_h0 : (Try.zeroCells58)[0]? = some (.bool false) := by kernel_rfl

theorem wp_load_u67 {o : Oper} {a : Act} {w : World} {K : Act → World → Prop} {Q : Exit → Act → World → Prop} (x : Operand) (ho : o.op = .load 26 x)
    (b T : Nat) (hx : a.eval x = .pointer (some ⟨b, 0, none⟩)) (m : List Nat) (hlen : m.length = 67) (hr : Row w b (uw m) T) (h : K (a.put o.dst (.agg (uw m))) w) : o.wp Try.prog a w K Q :=
  wp_load_row 26 x ho b hx T (uw m) (0, 0) _ hr Try.underlying26 rfl (by rw [uw_size, hlen, size_h67]) h
theorem eq_zero (w : World) : (Op.equalIn 9999 24 (.agg ((uw hzero).extract 0 65)) (.agg (Try.zeroCells26.extract 0 65))).run Try.prog w = .ok true w := by
  have h : ∀ x ∈ hzero, x < 18446744073709551616 := fun x hx => by simp [hzero] at hx; omega
  have := eq_counts hzero hzero (by simp [hzero]) (by simp [hzero]) h h w
  have e : Try.zeroCells26 = uw hzero := zero_ah
  rw [e, this]
  simp
theorem hzero_at (i : Nat) (hi : i < 67) : hzero[i]? = some 0 := by
  unfold hzero
  rw [List.getElem?_replicate, if_pos hi]
theorem cell_zero (i : Nat) (hi : i < 67) : (uw hzero)[i]? = some (.int .u64 0) := uw_is hzero i 0 (hzero_at i hi)
theorem cell_zero' (i : Nat) (hi : i < 67) (h : i < (Try.zeroCells26).size) : (Try.zeroCells26)[i] = .int .u64 0 := by
  have e : Try.zeroCells26 = uw hzero := zero_ah
  have h1 := cell_zero i hi
  rw [← e, Array.getElem?_eq_getElem h] at h1
  exact Option.some.inj h1
def hbig : List Nat := hzero.set 3 1099511627777
theorem hbig_sum : 1099511627776 < upS hbig 65 := by decide
set_option maxRecDepth 100000 in
theorem below_zero1 (w : World) : Calls Try.prog 12 #[.agg Try.zeroCells26, .int .u64 2, .int .u64 1] w fun e w' => e = .returned (.tuple #[.int .u64 0, .int .i64 2]) ∧ Sm (fun _ => False) w w' := by
  rw [zero_ah]
  exact tbelow_bad _ (by simp) 2 1 (.inr (.inr (by decide))) w
theorem below_zero2 (w : World) : Calls Try.prog 12 #[.agg Try.zeroCells26, .int .u64 0, .int .u64 0] w fun e w' => e = .returned (.tuple #[.int .u64 0, .int .i64 2]) ∧ Sm (fun _ => False) w w' := by
  rw [zero_ah]
  exact tbelow_bad _ (by simp) 0 0 (.inl rfl) w
theorem below_big (w : World) : Calls Try.prog 12 #[.agg (uw hbig), .int .u64 1, .int .u64 1] w fun e w' => e = .returned (.tuple #[.int .u64 0, .int .i64 4]) ∧ Sm (fun _ => False) w w' := by
  refine (tbelow_ok hbig (by simp [hbig, hzero]) (fun x hx => ?_) 1 1 (by unfold badArgs; omega) w).mono ?_
  · rcases List.mem_or_eq_of_mem_set hx with h | h
    · simp [hzero] at h; omega
    · omega
  · rintro e w' ⟨hs, h | h⟩
    · exact ⟨h.2, hs⟩
    · have := hbig_sum; omega
theorem join_nil (w : World) : Calls Try.prog 10 #[.slice none 0 0] w fun e w' => e = .returned (.agg (uw hzero)) ∧ Sm (fun _ => False) w w' :=
  tjoin_c none 0 0 0 0 (fun _ => []) (fun h => absurd h (by decide)) (by decide) w ⟨fun j h => absurd h (by omega), fun j h => absurd h (by omega), fun j h => absurd h (by omega), fun h => absurd h (by decide)⟩

set_option maxRecDepth 100000 in
set_option maxHeartbeats 1600000 in
theorem tallyNames_walk (w : World) :
    Calls Try.prog 5 #[] w fun e w' => e = .returned (.bool true) ∧ Sm (fun _ => False) w w' := by
  go_enter Try.func5, Try.ntmps5
  go_wp2
  go_loopw [1, 2, 3] (fun s1 s2 s3 wr => ∃ i : Nat, i ≤ 2 ∧ s3 = .int .i64 i ∧ Hid (BadT s1 wr) ∧ Hid (BadH s2 wr) ∧ Hid (Sm (fun _ => False) w wr)) (fun _ _ s3 _ => 2 - (intOf s3).toNat)
  case atStart => exact ⟨0, by omega, rfl, Lib.hid (.inl rfl), Lib.hid (.inl rfl), Lib.hid (Sm.refl _ _)⟩
  case round =>
    obtain ⟨i, hi, rfl, hT, hH, hS⟩ := hrel
    by_cases hlt : i < 2
    · have j1 : (i : Int) < 2 := by omega
      have hp : wrap64 ((i : Int) + 1) = ((i + 1 : Nat) : Int) := by unfold wrap64; omega
      have HP := Lib.hid hp
      clear hp
      go_wp2_with fail
      refine (tadd_bad _ _ hT.out _ _ _).mono ?_
      rintro e w1 ⟨rfl, rfl⟩
      go_wp2_with fail
      refine (tsum_bad _ _ hT.out _).mono ?_
      rintro e w1 ⟨rfl, rfl⟩
      go_wp2_with fail
      refine (tparts_bad _ _ hT.out _).mono ?_
      rintro e w1 ⟨rfl, rfl⟩
      go_wp2_with fail
      refine (hget_bad _ _ hH.out _).mono ?_
      rintro e w1 ⟨rfl, hs1⟩
      have HS1 := Lib.hid (hS.out.trans hs1)
      have hH1 : BadH u2 (w1.alloc (.cells (uw hzero) 26)) := by
        rcases hH.out with h | ⟨b, h, hc⟩
        · exact .inl h
        · refine .inr ⟨b, h, ?_⟩
          have hbl : b < wr.heap.size := by
            unfold World.cell? at hc
            split at hc
            · rename_i hh; exact (Array.getElem?_eq_some_iff.1 hh).1
            · cases hc
          exact ((hs1.alloc _).cell (p := ⟨b, 0, none⟩) hbl (fun h => h)).trans hc
      have HH1 := Lib.hid hH1
      have HS2 := Lib.hid (HS1.out.alloc (.cells (uw hzero) 26))
      clear hs1 hH1
      go_wp2_with (first
        | refine wpList_store_new67 rfl (.tmp 10) (.tmp 54) rfl (by simp [Act.eval, Act.put]) hzero (by simp [Act.eval, Act.put]) (by simp [hzero]) ?_
        | refine (hadd_bad _ _ HH1.out _ _).mono ?_)
      rintro e w2 ⟨rfl, rfl⟩
      go_wp2
      have q1 : Hid (BadT (.pointer (some ⟨w1.heap.size + 1, 0, none⟩)) (((w1.alloc (.cells (uw hzero) 26)).alloc (.cells #[.slice none 0 0] 50)).alloc (.cells Try.zeroCells58 58))) := by
        refine Lib.hid (.inr ⟨_, rfl, ?_⟩)
        have := Row.new (w1.alloc (.cells (uw hzero) 26)) #[.slice none 0 0] 50
        rw [World.size_alloc] at this
        exact this.alloc _
      have q2 : Hid (BadH (.pointer (some ⟨w1.heap.size + 1 + 1, 0, none⟩)) (((w1.alloc (.cells (uw hzero) 26)).alloc (.cells #[.slice none 0 0] 50)).alloc (.cells Try.zeroCells58 58))) := by
        refine Lib.hid (.inr ⟨_, rfl, ?_⟩)
        have := Row.new ((w1.alloc (.cells (uw hzero) 26)).alloc (.cells #[.slice none 0 0] 50)) Try.zeroCells58 58
        rw [World.size_alloc, World.size_alloc] at this
        exact (this.cell 0).trans zero_h0
      have q3 := Lib.hid ((HS2.out.alloc (.cells #[.slice none 0 0] 50)).alloc (.cells Try.zeroCells58 58))
      go_roundw
      case rel => exact ⟨i + 1, by omega, by first | rw [HP.out] | go_num, q1, q2, q3⟩
      case measure => (try rw [HP.out]); simp only [intOf]; omega
    · have hii : i = 2 := by omega
      subst hii
      have j1 : ¬ (2 : Int) < 2 := by omega
      have HSR := hS
      clear hT hH hS
      go_wp2_with fail
      refine (tnew_err 0 (by decide) _).mono ?_
      rintro e w1 ⟨rfl, rfl⟩
      go_wp2_with fail
      refine (tnew_err 65 (by decide) _).mono ?_
      rintro e w1 ⟨rfl, rfl⟩
      go_wp2_with fail
      refine (tnew_ok 64 (by decide) (by decide) _).mono ?_
      rintro e w2 ⟨rfl, hs2, ht2⟩
      have HS2 := Lib.hid (HSR.out.trans hs2)
      have HT2 := Lib.hid ht2
      clear hs2 ht2
      go_wp2_with fail
      refine (newNotes_c w2).mono ?_
      rintro e w3 ⟨rfl, hs3, hn3, hz3⟩
      have ht3 := HT2.out.sm hs3 (fun h => h) (fun h => h)
      have HS3 := Lib.hid (HS2.out.trans hs3)
      have HT3 := Lib.hid ht3
      have HN3 := Lib.hid hn3
      have HX := Lib.hid (And.intro HT2.out.rT.lt HT2.out.rA.lt)
      clear hs3 hn3 ht3
      go_wp2_with fail
      refine (tadd_out _ _ _ _ HT3.out _ _ _ (.inr (by simp))).mono ?_
      rintro e w4 ⟨rfl, rfl⟩
      go_wp2_with fail
      refine (tadd_out _ _ _ _ HT3.out _ _ _ (.inl (by decide))).mono ?_
      rintro e w4 ⟨rfl, rfl⟩
      obtain ⟨nb, hnb⟩ : ∃ nb, nb = w2.heap.size := ⟨_, rfl⟩
      rw [← hnb] at HN3 HX hz3 ⊢
      have HNB := Lib.hid hnb
      clear hnb
      go_wp2_with fail
      refine (tadd_c (gate_nilX wr.heap.size (fun k => k = wr.heap.size + 1 ∨ k = wr.heap.size) (fun w => Noted nb w []) (fun w w' hy k => hy.sm k (fun b hb hf => by have := HX.out; omega))) (Nat.le_refl _) (List.replicate 64 0) 63 1 1 (by decide) (by decide) w3 [] (by decide) HN3.out HT3.out).mono ?_
      rintro e w5 ⟨rfl, hn5, hb5, ht5⟩
      have HN5 := Lib.hid hn5
      have hs5 : Sm (fun k => wr.heap.size ≤ k) w3 w5 := ⟨hb5.os, hb5.tape, hb5.output, hb5.size, fun k hk hf => hb5.block k (by omega)⟩
      have HS5 := Lib.hid hs5
      clear hn5 hb5 ht5 hs5
      go_wp2_with fail
      refine (below_zero1 _).mono ?_
      rintro e w6 ⟨rfl, hs6⟩
      have HS6 := Lib.hid hs6
      clear hs6
      go_wp2_with fail
      refine (below_zero2 _).mono ?_
      rintro e w7 ⟨rfl, hs7⟩
      have HS7 := Lib.hid hs7
      clear hs7
      have HN7 := Lib.hid ((HN5.out.sm HS6.out (fun _ _ h => h)).sm HS7.out (fun _ _ h => h))
      have b1 : Row (w7.alloc (.cells (Try.zeroCells26.setIfInBounds 3 (.int .u64 1099511627777)) 26)) w7.heap.size (uw hbig) 26 := by
        rw [zero_ah]
        have e : (uw (List.replicate 67 0)).setIfInBounds 3 (.int .u64 1099511627777) = uw hbig := uw_set _ 3 1099511627777
        rw [e]
        exact Row.new w7 _ _
      go_wp2_with fail
      refine wp_load_u67 (.tmp 29) rfl w7.heap.size _ (by simp [Act.eval, Act.put]) hbig (by simp [hbig, hzero]) b1 ?_
      go_wp2_with fail
      refine (below_big _).mono ?_
      rintro e w8 ⟨rfl, hs8⟩
      have HS8 := Lib.hid hs8
      have HN8 := Lib.hid ((HN7.out.alloc (.cells (Try.zeroCells26.setIfInBounds 3 (.int .u64 1099511627777)) 26)).sm hs8 (fun _ _ h => h))
      clear hs8 b1
      go_wp2_with fail
      refine (awake_c _).mono ?_
      rintro e w9 ⟨rfl, hs9⟩
      have HS9 := Lib.hid hs9
      have HN9 := Lib.hid (HN8.out.sm hs9 (fun _ _ h => h))
      clear hs9
      go_wp2_with fail
      refine (marks_c nb [] _ HN9.out (by decide)).mono ?_
      rintro e w10 ⟨v10, rfl, h10, hb10⟩
      obtain ⟨a10, c10, rfl⟩ := own_form0 h10
      have HB10 := Lib.hid hb10
      clear h10 hb10
      go_wp2_with fail
      refine (join_nil _).mono ?_
      rintro e w11 ⟨rfl, hs11⟩
      have HS11 := Lib.hid hs11
      have he := eq_zero w11
      have z5 := cell_zero 65 (by decide)
      have z6 := cell_zero 66 (by decide)
      have y5 := cell_zero' 65 (by decide)
      have y6 := cell_zero' 66 (by decide)
      clear hs11
      go_wp2
      go_ret
      refine ⟨rfl, ?_⟩
      have g : ∀ {a b : World}, Sm (fun _ => False) a b → Sm (fun k => wr.heap.size ≤ k) a b := fun h => h.mono (fun _ x => x.elim)
      have s0 := HS3.out
      have z0 := HSR.out.size
      have s1 := ((((((((g s0).trans HS5.out).trans (g HS6.out)).trans (g HS7.out)).alloc (.cells (Try.zeroCells26.setIfInBounds 3 (.int .u64 1099511627777)) 26)).trans (g HS8.out)).trans (g HS9.out)).trans (g HB10.out)).trans (g HS11.out)
      exact ⟨s1.os, s1.tape, s1.output, s1.size, fun k hk _ => s1.block k hk (by omega)⟩

theorem names_w (w : World) : Calls Try.prog 5 #[] w fun e w' => e = .returned (.bool true) ∧ Below w.heap.size w w' :=
  (tallyNames_walk w).mono fun e w' ⟨h1, h2⟩ => ⟨h1, h2.below (Nat.le_refl _) (fun _ h => h.elim)⟩
end Go.Proofs.Ytdedmmjmiakidaa
