/- patchbaylaw11.TallyHists, walked alone: true. -/
import Derived.Test.YtdedmmjmiakidaaTalR
import Derived.Test.YtdedmmjmiakidaaTalL
import Derived.Test.YtdedmmjmiakidaaTalG
import Derived.Deep.RegionHeld
namespace Go.Proofs.Ytdedmmjmiakidaa
open Go.RowKit
set_option linter.unusedVariables false
set_option linter.unusedSimpArgs false

theorem quiet_load_h67 {o : Oper} {a : Act} {C : World → Prop} {K : Act → Prop} (x : Operand) (ho : o.op = .load 26 x) (b off : Nat) (hx : a.eval x = .pointer (some ⟨b, off, none⟩)) (m : List Nat) (hlen : m.length = 67)
    (hC : ∀ w, C w → w.rangeAt b off (uw m).toList) (hk : K (a.put o.dst (.agg (uw m)))) : o.quiet Try.prog a C K :=
  ⟨_, fun w hw => by
    have h := run_loadVar_mid (P := Try.prog) w b off 26 (uw m).toList _ (hC w hw) Try.underlying26 rfl (by rw [Array.length_toList, uw_size, hlen, size_h67])
    unfold Oper.quietAt execOp
    simp only [ho, hx, Instr.loadAt, Instr.sureAddr, Sem.run_bind, Sem.run_pure, Result.andThen_ok, h]
    exact ⟨rfl, rfl⟩, hk⟩

set_option maxRecDepth 100000 in
set_option maxHeartbeats 1600000 in
theorem hists_walk (A : Option Addr) (n c b off : Nat) (f : Nat → List Nat) (hnil : A = none → n = 0 ∧ c = 0) (ha : 0 < n → A = some ⟨b, off, none⟩) (hreach : n * 536 ≤ 140737488355328) (part ofN : Nat) (w : World) (h : HisL b off n f w) :
    Calls Try.prog 3 #[.slice A n c, .int .u64 part, .int .u64 ofN] w fun e w' => e = .returned (.bool true) ∧ Sm (fun _ => False) w w' := by
  have HH := Lib.hid h
  have HA := Lib.hid ha
  have HNIL := Lib.hid hnil
  clear h ha hnil
  go_enter Try.func3, Try.ntmps3
  go_wp2_with (at_builtin; refine wpList_append_hists rfl (.tmp 17) (.tmp 18) rfl rfl A n c rfl HNIL.out b off f HA.out HH.out hreach ?_; intro a2 b2 c2 w1 ha2 hl2 hs1)
  have HA2 := Lib.hid ha2
  have HL2 := Lib.hid hl2
  have HS1 := Lib.hid hs1
  clear ha2 hl2 hs1
  go_wp2_with fail
  refine (tjoin_c a2 b2 0 n c2 f HA2.out (by omega) w1 HL2.out).mono ?_
  rintro e w2 ⟨rfl, hs2⟩
  have HS2 := Lib.hid hs2
  have HB2 := Lib.hid (HH.out.sm (HS1.out.trans hs2) (fun h => h))
  clear hs2
  go_wp2_with fail
  refine (rjoin_c A b off n c f HA.out (by omega) w2 HB2.out).mono ?_
  rintro e w3 ⟨rfl, hs3⟩
  have HS3 := Lib.hid hs3
  clear hs3
  obtain ⟨M, hM⟩ : ∃ M, M = joinN f n := ⟨_, rfl⟩
  rw [← hM]
  have hMl : M.length = 67 := by rw [hM]; exact joinN_len f n
  have hMm : ∀ x ∈ M, x < 18446744073709551616 := by rw [hM]; exact joinN_lt f n HH.out.lt
  have he := eq_counts M M hMl hMl hMm hMm w3
  have z5 := uw_isD M 65 (by omega)
  have z6 := uw_isD M 66 (by omega)
  have HM := Lib.hid hM
  have HMm := Lib.hid hMm
  clear hM hMm
  go_wp2
  have HIN := Lib.hid (HL2.out.sm (HS2.out.trans HS3.out) (fun h => h))
  have HL := Lib.hid (HB2.out.sm HS3.out (fun h => h))
  go_loopw [8] (fun s8 wr => ∃ i : Nat, i ≤ n ∧ s8 = .int .i64 i ∧ Hid (Sm (fun _ => False) w3 wr)) (fun s8 _ => n - (intOf s8).toNat)
  case atStart => exact ⟨0, by omega, rfl, Lib.hid (Sm.refl _ _)⟩
  case round =>
    obtain ⟨i, hi, rfl, hS⟩ := hrel
    by_cases hlt : i < n
    · have j1 : (i : Int) < (n : Int) := by omega
      have hp : wrap64 ((i : Int) + 1) = ((i + 1 : Nat) : Int) := by unfold wrap64; omega
      have HP := Lib.hid hp
      clear hp
      have hA1 := HA.out (by omega)
      have hA2 := HA2.out (by omega)
      subst hA1
      subst hA2
      have hl := HL.out.sm hS.out (fun h => h)
      have hBl := hl.len i hlt
      have hBm := hl.lt i hlt
      have hrng := hl.rng i hlt
      obtain ⟨B, hB⟩ : ∃ B, B = f i := ⟨_, rfl⟩
      rw [← hB] at hBl hBm hrng
      have HB := Lib.hid hB
      have HBm := Lib.hid hBm
      have HRG := Lib.hid hrng
      clear hB hBm hrng hl
      go_wp2_with (first
        | refine wpList_load_h67 rfl (.tmp 34) rfl b (off + i * 67) (by simp [Act.eval, Act.put]) B hBl HRG.out ?_
        | refine wp_load_h67 (.tmp 34) rfl b (off + i * 67) (by simp [Act.eval, Act.put]) B hBl HRG.out ?_)
      go_wp2_with fail
      refine (tbelow_c B hBl HBm.out part ofN _).mono ?_
      rintro e w4 ⟨r1, r2, hr, rfl, hs4⟩
      have HR1 := Lib.hid hr
      have HS4 := Lib.hid hs4
      have HRG4 := Lib.hid ((HL.out.sm (hS.out.trans hs4) (fun h => h)).rng i hlt)
      have HBX := HB
      clear hr hs4
      rw [← HB.out] at HRG4
      go_wp2_with (first
        | refine wpList_load_h67 rfl (.tmp 44) rfl b (off + i * 67) (by simp [Act.eval, Act.put]) B hBl HRG4.out ?_
        | refine wp_load_h67 (.tmp 44) rfl b (off + i * 67) (by simp [Act.eval, Act.put]) B hBl HRG4.out ?_)
      go_wp2_with fail
      refine (rbelow_c B hBl HBm.out part ofN _).mono ?_
      rintro e w5 ⟨r1', r2', hr, rfl, hs5⟩
      obtain ⟨rfl, rfl⟩ := HR1.out.uniq hr
      have HS5 := Lib.hid hs5
      clear hr hs5
      have r1w := (HL.out.sm ((hS.out.trans HS4.out).trans HS5.out) (fun h => h)).rng i hlt
      have r2w := (HIN.out.sm ((hS.out.trans HS4.out).trans HS5.out) (fun h => h)).rng i hlt
      rw [← HB.out] at r1w r2w
      rw [Nat.zero_add] at r2w
      have hsz : (Try.prog.info? 26).map (·.size) = some ((uw B).toList.length) := by rw [Array.length_toList, uw_size, hBl, size_h67]
      have hec : ∀ w, (Op.equalIn 9999 24 (.agg ((uw B).extract 0 65)) (.agg ((uw B).extract 0 65))).run Try.prog w = .ok true w := fun w => by
        rw [eq_counts B B hBl hBl HBm.out HBm.out w]; simp
      have b5 := uw_isD B 65 (by omega)
      have b6 := uw_isD B 66 (by omega)
      go_wp2
      refine wp_region_quiet_lit (by kernel_rfl) (by kernel_rfl) ?_
      repeat (first
        | go_big_quiet_skip
        | (go_big_quiet_want; refine quiet_load_h67 (.tmp 62) rfl b2 (i * 67) (by simp [Act.eval]) B hBl (fun w' hw => by obtain ⟨q, rfl⟩ := hw; exact r2w) ?_; simp only [Act.put, List.setIfInBounds_toArray, List.set_cons_succ, List.set_cons_zero]; go_big_quiet_on)
        | (go_big_quiet_want; refine quiet_load_h67 (.tmp 66) rfl b (off + i * 67) (by simp [Act.eval]) B hBl (fun w' hw => by obtain ⟨q, rfl⟩ := hw; exact r1w) ?_; simp only [Act.put, List.setIfInBounds_toArray, List.set_cons_succ, List.set_cons_zero]; go_big_quiet_on)
        | (go_big_quiet_want; go_big_quiet_op; go_big_quiet_on))
      refine wpQuiet_nil ?_
      intro _ hw'
      obtain ⟨nq, hw''⟩ := hw'
      subst hw''
      have hsn : ∀ q, Hid (Sm (fun _ => False) w3 (w5.drewN q)) := fun q => Lib.hid (((hS.out.trans HS4.out).trans HS5.out).drewN q)
      go_wp2
      go_roundw
      case rel => exact ⟨i + 1, by omega, by first | rw [HP.out] | go_num, hsn _⟩
      case measure => (try rw [HP.out]); simp only [intOf]; omega
    · have hii : i = n := by omega
      subst hii
      have j1 : ¬ (i : Int) < (i : Int) := by omega
      have HLW := Lib.hid (HL.out.sm hS.out (fun h => h))
      go_wp2_with fail
      refine (tjoin_c A b off i c f HA.out (by omega) _ HLW.out).mono ?_
      rintro e w4 ⟨rfl, hs4⟩
      rw [← HM.out]
      have HS4 := Lib.hid hs4
      have HL4 := Lib.hid (HLW.out.sm hs4 (fun h => h))
      clear hs4
      go_wp2_with fail
      refine (tbelow_c M hMl HMm.out part ofN _).mono ?_
      rintro e w5 ⟨r1, r2, hr, rfl, hs5⟩
      have HR1 := Lib.hid hr
      have HS5 := Lib.hid hs5
      have HL5 := Lib.hid (HL4.out.sm hs5 (fun h => h))
      clear hr hs5
      go_wp2_with fail
      refine (rjoin_c A b off i c f HA.out (by omega) _ HL5.out).mono ?_
      rintro e w6 ⟨rfl, hs6⟩
      rw [← HM.out]
      have HS6 := Lib.hid hs6
      clear hs6
      go_wp2_with fail
      refine (rbelow_c M hMl HMm.out part ofN _).mono ?_
      rintro e w7 ⟨r1', r2', hr, rfl, hs7⟩
      obtain ⟨rfl, rfl⟩ := HR1.out.uniq hr
      have HS7 := Lib.hid hs7
      clear hr hs7
      go_wp2_with fail
      refine (awake_c _).mono ?_
      rintro e w8 ⟨rfl, hs8⟩
      have HS8 := Lib.hid hs8
      clear hs8
      go_wp2
      go_ret
      exact ⟨rfl, (((((((HS1.out.trans HS2.out).trans HS3.out).trans hS.out).trans HS4.out).trans HS5.out).trans HS6.out).trans HS7.out).trans HS8.out⟩

theorem hists_w (A : Option Addr) (n c b off : Nat) (f : Nat → List Nat) (hnil : A = none → n = 0 ∧ c = 0) (ha : 0 < n → A = some ⟨b, off, none⟩) (hreach : n * 536 ≤ 140737488355328) (part ofN : Int) (hp : 0 ≤ part) (ho : 0 ≤ ofN) (w : World) (h : HisL b off n f w) :
    Calls Try.prog 3 #[.slice A n c, .int .u64 part, .int .u64 ofN] w fun e w' => e = .returned (.bool true) ∧ Below w.heap.size w w' := by
  have this : Calls Try.prog 3 #[.slice A n c, .int .u64 (part.toNat : Int), .int .u64 (ofN.toNat : Int)] w fun e w' => e = .returned (.bool true) ∧ Below w.heap.size w w' :=
    (hists_walk A n c b off f hnil ha hreach part.toNat ofN.toNat w h).mono fun e w' ⟨h1, h2⟩ => ⟨h1, h2.below (Nat.le_refl _) (fun _ h => h.elim)⟩
  rw [Int.toNat_of_nonneg hp, Int.toNat_of_nonneg ho] at this
  exact this
end Go.Proofs.Ytdedmmjmiakidaa
