/- patchbayref25.Kept, walked alone: it answers as lane.Kept does. -/
import Derived.Test.YthjdnhlckjchgaaLanJ
namespace Go.Proofs.Ythjdnhlckjchgaa
open Go.RowKit
set_option linter.unusedVariables false
set_option linter.unusedSimpArgs false

/-- What is known behind i rounds in which nothing broke the order. -/
structure KI (ks : List KeyV) (ds : List Int) (D : Nat × Bool) (i : Nat) (g : KeyV → Int) : Prop where
  run : keptF ks (ds.drop i) i g = D
  rng : ∀ j (h : j < ds.length), j < i → 0 ≤ ds[j] ∧ ds[j] < (ks.length : Int)
  up : ∀ j (h : j < ds.length), j < i → ∀ k, ks[ds[j].toNat]? = some k → ds[j] + 1 ≤ g k
  hit : ∀ k, 0 < g k → ∃ j, ∃ h : j < ds.length, j < i ∧ ks[ds[j].toNat]? = some k ∧ ds[j] + 1 = g k
theorem KI.start (ks : List KeyV) (ds : List Int) : KI ks ds (keptF ks ds 0 fun _ => 0) 0 fun _ => 0 :=
  ⟨by rw [List.drop_zero], fun j h h0 => absurd h0 (by omega), fun j h h0 => absurd h0 (by omega), fun k h => absurd h (by decide)⟩
theorem KI.out {ks : List KeyV} {ds : List Int} {D : Nat × Bool} {i : Nat} {g : KeyV → Int} (h : KI ks ds D i g) (hi : i < ds.length) (hb : ds[i] < 0 ∨ (ks.length : Int) ≤ ds[i]) : D = (i, false) := by
  have hr := h.run
  rw [List.drop_eq_getElem_cons hi] at hr
  unfold keptF at hr
  rw [if_pos hb] at hr
  exact hr.symm
theorem KI.done {ks : List KeyV} {ds : List Int} {D : Nat × Bool} {i : Nat} {g : KeyV → Int} (h : KI ks ds D i g) (hi : i = ds.length) : D = (i, true) := by
  have hr := h.run
  rw [List.drop_of_length_le (by omega)] at hr
  exact hr.symm
/-- One that is above it, of the same key. -/
theorem KI.bad {ks : List KeyV} {ds : List Int} {D : Nat × Bool} {i : Nat} {g : KeyV → Int} (h : KI ks ds D i g) (hi : i < ds.length) {e : Nat} (he : ds[i] = (e : Int)) (hek : e < ks.length) {j : Nat} (hj : j < i) {m : Nat} (hm : (ds[j]'(by omega)) = (m : Int)) (hmk : m < ks.length)
    (hb : m = e ∨ (e < m ∧ ks[m] = ks[e])) : D = (i, false) := by
  have hr := h.run
  rw [List.drop_eq_getElem_cons hi, he] at hr
  unfold keptF at hr
  rw [if_neg (by omega)] at hr
  have h2 : ks[(e : Int).toNat]? = some ks[e] := by simp [hek]
  rw [h2] at hr
  have h3 := h.up j (by omega) hj ks[m] (by rw [hm]; simp [hmk])
  have h4 : (e : Int) < g ks[e] := by
    rcases hb with rfl | ⟨h5, h6⟩
    · omega
    · rw [← h6]; omega
  simp only [if_pos h4] at hr
  exact hr.symm
theorem KI.next {ks : List KeyV} {ds : List Int} {D : Nat × Bool} {i : Nat} {g : KeyV → Int} (h : KI ks ds D i g) (hi : i < ds.length) {e : Nat} (he : ds[i] = (e : Int)) (hek : e < ks.length)
    (hn : ∀ j (hj : j < i) (m : Nat), (ds[j]'(by omega)) = (m : Int) → ∀ hmk : m < ks.length, ¬ (m = e ∨ (e < m ∧ ks[m] = ks[e]))) : KI ks ds D (i + 1) (fun x => if x = ks[e] then (e : Int) + 1 else g x) := by
  have h2 : ks[(e : Int).toNat]? = some ks[e] := by simp [hek]
  have h4 : ¬ (e : Int) < g ks[e] := by
    intro h5
    obtain ⟨j, hjl, hj, hk, hd⟩ := h.hit ks[e] (by omega)
    obtain ⟨h6, h7⟩ := h.rng j hjl hj
    obtain ⟨m, hm⟩ := Int.eq_ofNat_of_zero_le h6
    rw [hm] at hk h7 hd
    have hmk : m < ks.length := by omega
    have hk2 : ks[m] = ks[e] := by simpa [hmk] using hk
    refine hn j hj m hm hmk ?_
    rcases Nat.lt_trichotomy e m with h8 | h8 | h8
    · exact .inr ⟨h8, hk2⟩
    · exact .inl h8.symm
    · omega
  refine ⟨?_, ?_, ?_, ?_⟩
  · have hr := h.run
    rw [List.drop_eq_getElem_cons hi, he] at hr
    unfold keptF at hr
    rw [if_neg (by omega), h2] at hr
    simp only [if_neg h4] at hr
    exact hr
  · intro j hj hji
    by_cases h5 : j < i
    · exact h.rng j hj h5
    · obtain rfl : j = i := by omega
      rw [he]; omega
  · intro j hj hji k hk
    by_cases h5 : j < i
    · have h6 := h.up j hj h5 k hk
      by_cases h7 : k = ks[e]
      · rw [if_pos h7]; rw [h7] at h6; omega
      · rw [if_neg h7]; exact h6
    · obtain rfl : j = i := by omega
      rw [he] at hk ⊢
      rw [h2] at hk
      rw [if_pos (by simpa using hk.symm)]
      omega
  · intro k hk
    by_cases h7 : k = ks[e]
    · refine ⟨i, hi, by omega, by rw [he, h7]; exact h2, ?_⟩
      rw [if_pos h7, he]
    · rw [if_neg h7] at hk ⊢
      obtain ⟨j, hjl, hj, r⟩ := h.hit k hk
      exact ⟨j, hjl, by omega, r⟩

theorem run_eq_keys (a b : KeyV) (ha : a.Ok) (hb : b.Ok) (w : World) : (binOp .eql 63 (.agg (keyC a).toArray) (.agg (keyC b).toArray)).run Try.prog w = .ok (.bool (decide (a = b))) w := by
  have h := eq_keys a b ha hb w
  obtain ⟨A, hA⟩ : ∃ A, A = (keyC a).toArray := ⟨_, rfl⟩
  obtain ⟨B, hB⟩ : ∃ B, B = (keyC b).toArray := ⟨_, rfl⟩
  rw [← hA, ← hB] at h ⊢
  clear hA hB
  simp only [binOp]
  simp [Op.equal, Op.maxDepth, h]
set_option maxRecDepth 20000 in
theorem quiet_eq_keys {o : Oper} {a : Act} {C : World → Prop} {K : Act → Prop} {ty : TypeId} (x y : Operand) (ho : o.op = .binOp .eql 63 x y ty) (k k' : KeyV) (hk : k.Ok) (hk' : k'.Ok) (hx : a.eval x = .agg (keyC k).toArray) (hy : a.eval y = .agg (keyC k').toArray)
    (h : K (a.put o.dst (.bool (decide (k = k'))))) : o.quiet Try.prog a C K :=
  ⟨_, fun w hw => by
    have hr := run_eq_keys k k' hk hk' w
    obtain ⟨A, hA⟩ : ∃ A, A = (keyC k).toArray := ⟨_, rfl⟩
    obtain ⟨B, hB⟩ : ∃ B, B = (keyC k').toArray := ⟨_, rfl⟩
    rw [← hA] at hr hx
    rw [← hB] at hr hy
    clear hA hB
    have hg := run_eqGuard_agg (P := Try.prog) (w := w) .eql 63 x y A B (by kernel_rfl)
    unfold Oper.quietAt execOp
    simp only [ho, hx, hy, Sem.run_bind, hg, hr, Result.andThen_ok, Sem.run_pure]
    exact ⟨rfl, rfl⟩, h⟩

set_option maxRecDepth 100000 in
set_option maxHeartbeats 1600000 in
theorem rkept_c (ks : List KeyV) (hks : ∀ k ∈ ks, k.Ok) (hkl : ks.length ≤ 1000) (kv dv : Value) (ds : List Int) (dr : List (List Value)) (hdl : dr.length = ds.length) (hd1 : ds.length ≤ 1000) (hd2 : ∀ j (h : j < dr.length), dr[j][0]? = ds[j]?.map (Value.int .i64 ·))
    (w : World) (hk : Recs 37 kv (ks.map keyC) w) (hd : Recs 12 dv dr w) :
    Calls Try.prog 17 #[kv, dv] w fun e w' => e = .returned (.tuple #[.int .i64 ((keptF ks ds 0 fun _ => 0).1 : Nat), .bool (keptF ks ds 0 fun _ => 0).2]) ∧ Sm (fun _ => False) w w' := by
  have hst := KI.start ks ds
  obtain ⟨D, hD⟩ : ∃ D, D = keptF ks ds 0 fun _ => 0 := ⟨_, rfl⟩
  rw [← hD] at hst ⊢
  have HK := Lib.hid hk
  have HDD := Lib.hid hd
  obtain ⟨ka, kc, rfl, hkc, -⟩ := hk
  obtain ⟨da, dc, rfl, hdc, -⟩ := hd
  have HST := Lib.hid hst
  have HD2 := Lib.hid hd2
  have HKS := Lib.hid hks
  clear hD hd2 hks hst
  simp only [List.length_map] at hkc HK ⊢
  obtain ⟨n, hn⟩ : ∃ n, n = dr.length := ⟨_, rfl⟩
  rw [← hn] at hdc hdl HDD ⊢
  have HN := Lib.hid hn
  clear hn
  go_enter Try.func17, Try.ntmps17
  go_wp2
  go_loopw [6] (fun s6 wr => ∃ i : Nat, i ≤ n ∧ s6 = .int .i64 i ∧ (∃ g, Hid (KI ks ds D i g)) ∧ Hid (Sm (fun _ => False) w wr)) (fun s6 wr => n - (intOf s6).toNat)
  case atStart => exact ⟨0, by omega, rfl, ⟨_, HST⟩, Lib.hid (Sm.refl _ _)⟩
  case round =>
    obtain ⟨i, hi, rfl, ⟨g, hKI⟩, hS⟩ := hrel
    by_cases hlt : i < n
    · have j1 : (i : Int) < (n : Int) := by omega
      have hids : i < ds.length := by omega
      have hidr : i < dr.length := by rw [← HN.out]; exact hlt
      obtain ⟨a1, c1, e1, -, h1⟩ := HDD.out.sm hS.out (fun b hb e => e)
      obtain ⟨db, dof, rfl, hdb, hdr⟩ := h1 (by omega)
      simp only [Value.slice.injEq] at e1
      obtain ⟨rfl, -, rfl⟩ := e1
      have hcell : ∀ j (hj : j < n) (hjl : j < ds.length), wr.cell? ⟨db, dof + j * 12, none⟩ = some (.int .i64 ds[j]) := fun j hj hjl => by
        have hj1 : j < dr.length := by rw [← HN.out]; exact hj
        have h0 := HD2.out j hj1
        rw [List.getElem?_eq_getElem (l := ds) (by omega)] at h0
        exact hdr j hj1 0 _ h0
      obtain ⟨d, hd⟩ : ∃ d, d = ds[i] := ⟨_, rfl⟩
      have hc0 := hcell i hlt hids
      rw [← hd] at hc0
      have HC := Lib.hid hcell
      have HDE := Lib.hid hd
      have hp : wrap64 ((i : Int) + 1) = ((i + 1 : Nat) : Int) := by unfold wrap64; omega
      have HP := Lib.hid hp
      clear hcell hd hp hdr h1
      by_cases hA : d < 0
      · have hDD := hKI.out.out hids (.inl (by rw [← HDE.out]; exact hA))
        subst hDD
        have r := Lib.hid hS.out
        clear hKI HC HDE
        go_wp2
        go_ret2
        exact ⟨rfl, r.out⟩
      by_cases hB : (ks.length : Int) ≤ d
      · have hDD := hKI.out.out hids (.inr (by rw [← HDE.out]; exact hB))
        subst hDD
        have r := Lib.hid hS.out
        clear hKI HC HDE
        go_wp2
        go_ret2
        exact ⟨rfl, r.out⟩
      have hA2 : 0 ≤ d := by omega
      have hB2 : d < (ks.length : Int) := by omega
      obtain ⟨e, rfl⟩ := Int.eq_ofNat_of_zero_le hA2
      have hek : e < ks.length := by omega
      clear hA hB hA2
      have HKI := hKI
      have HSO := hS
      clear hKI hS
      obtain ⟨wo, rfl⟩ : ∃ wo : World, wo = wr := ⟨_, rfl⟩
      obtain ⟨a2, c2, e2, -, h2⟩ := HK.out.sm HSO.out (fun b hb e => e)
      obtain ⟨kb, ko, rfl, hkb, hkr⟩ := h2 (by simp; omega)
      simp only [Value.slice.injEq, List.length_map] at e2
      obtain ⟨rfl, -, rfl⟩ := e2
      have HKR : Hid (∀ j (hj : j < ks.length), wo.rangeAt kb (ko + j * 37) (keyC ks[j])) := Lib.hid (fun j hj => by
        have := hkr j (by simpa using hj)
        rwa [List.getElem_map] at this)
      clear hkr h2
      have HDL := Lib.hid hdl
      clear hdl
      go_wp2
      go_loopw [8] (fun s8 wr => ∃ k : Nat, k ≤ i ∧ s8 = .int .i64 k ∧ Hid (∀ j (hj : j < k) (hjl : j < ds.length) (m : Nat), ds[j] = (m : Int) → ∀ hmk : m < ks.length, ¬ (m = e ∨ (e < m ∧ ks[m] = ks[e]))) ∧ Hid (Sm (fun _ => False) wo wr)) (fun s8 wr => i - (intOf s8).toNat)
      case atStart => exact ⟨0, by omega, rfl, Lib.hid (fun j hj => absurd hj (by omega)), Lib.hid (Sm.refl _ _)⟩
      case round =>
        obtain ⟨k, hki, rfl, hNB, hS2⟩ := hrel
        by_cases hlt2 : k < i
        · have j2 : (k : Int) < (i : Int) := by omega
          have hkds : k < ds.length := by omega
          have hcell := (hS2.out.cell (p := ⟨db, dof + k * 12, none⟩) hdb (fun h => h)).trans (HC.out k (by omega) hkds)
          obtain ⟨h6, h7⟩ := HKI.out.rng k hkds hlt2
          obtain ⟨m, hm⟩ := Int.eq_ofNat_of_zero_le h6
          rw [hm] at hcell h7
          have hmk : m < ks.length := by omega
          have HM := Lib.hid hm
          have hp2 : wrap64 ((k : Int) + 1) = ((k + 1 : Nat) : Int) := by unfold wrap64; omega
          have HP2 := Lib.hid hp2
          have HKm := Lib.hid (show ∀ W : World, (∃ q, W = wr.drewN q) → W.rangeAt kb (ko + m * 37) (keyC ks[m]) from fun W hW x u hu => by
            obtain ⟨q, rfl⟩ := hW
            exact ((hS2.out.drewN q).cell (p := ⟨kb, ko + m * 37 + x, none⟩) hkb (fun h => h)).trans (HKR.out m hmk x u hu))
          have HKe := Lib.hid (show ∀ W : World, (∃ q, W = wr.drewN q) → W.rangeAt kb (ko + e * 37) (keyC ks[e]) from fun W hW x u hu => by
            obtain ⟨q, rfl⟩ := hW
            exact ((hS2.out.drewN q).cell (p := ⟨kb, ko + e * 37 + x, none⟩) hkb (fun h => h)).trans (HKR.out e hek x u hu))
          have hkom := HKS.out _ (List.getElem_mem hmk)
          have hkoe := HKS.out _ (List.getElem_mem hek)
          have hkl1 := keyC_len _ hkom
          have hkl2 := keyC_len _ hkoe
          have HBAD := Lib.hid (fun hb => HKI.out.bad hids HDE.out.symm hek hlt2 HM.out hmk hb)
          obtain ⟨km, hkm⟩ : ∃ km, km = ks[m] := ⟨_, rfl⟩
          obtain ⟨ke, hke⟩ : ∃ ke, ke = ks[e] := ⟨_, rfl⟩
          rw [← hkm] at HKm hkom hkl1
          rw [← hke] at HKe hkoe hkl2
          have HKM := Lib.hid hkm
          have HKE := Lib.hid hke
          clear hm h6 h7 hp2 hkm hke hdb hkb
          by_cases hme : m = e
          · have hDD := HBAD.out (.inl hme)
            subst hDD
            have q1 : ((m : Int) == (e : Int)) = true := by simp; omega
            have q2 : decide (m = e) = true := by simp; omega
            have r := Lib.hid (HSO.out.trans hS2.out)
            clear HKI HSO hS2 hNB HDE HC hme
            go_wp2
            refine wp_region_quiet_lit (by kernel_rfl) (by kernel_rfl) ?_
            repeat (first
              | go_big_quiet_skip
              | (go_big_quiet_want; go_big_quiet_op; go_big_quiet_on))
            refine wpQuiet_nil ?_
            intro _ hw'
            obtain ⟨nq, hw''⟩ := hw'
            subst hw''
            go_wp2
            go_ret2
            exact ⟨rfl, r.out.drewN nq⟩
          · have q1 : ((m : Int) == (e : Int)) = false := by simp; omega
            have q2 : decide (m = e) = false := by simp; omega
            by_cases hgt : e < m
            · have q3 : decide ((e : Int) < (m : Int)) = true := by simp; omega
              have q4 : decide (e < m) = true := by simp; omega
              by_cases hkk : km = ke
              · have q5 : decide (km = ke) = true := by simp [hkk]
                have hDD := HBAD.out (.inr ⟨hgt, by rw [← HKM.out, ← HKE.out]; exact hkk⟩)
                subst hDD
                have r := Lib.hid (HSO.out.trans hS2.out)
                clear HKI HSO hS2 hNB HDE HC hme hkk
                go_wp2
                refine wp_region_quiet_lit (by kernel_rfl) (by kernel_rfl) ?_
                repeat (first
                  | go_big_quiet_skip
                  | (go_big_quiet_want; refine quiet_load_key (.tmp 50) rfl kb (ko + m * 37) (by simp [Act.eval]) (keyC km) hkl1 HKm.out ?_; simp only [Act.put, List.setIfInBounds_toArray, List.set_cons_succ, List.set_cons_zero]; go_big_quiet_on)
                  | (go_big_quiet_want; refine quiet_load_key (.tmp 54) rfl kb (ko + e * 37) (by simp [Act.eval]) (keyC ke) hkl2 HKe.out ?_; simp only [Act.put, List.setIfInBounds_toArray, List.set_cons_succ, List.set_cons_zero]; go_big_quiet_on)
                  | (go_big_quiet_want; refine quiet_eq_keys (.tmp 51) (.tmp 55) rfl km ke hkom hkoe (by simp [Act.eval]) (by simp [Act.eval]) ?_; simp only [Act.put, List.setIfInBounds_toArray, List.set_cons_succ, List.set_cons_zero]; go_big_quiet_on)
                  | (go_big_quiet_want; go_big_quiet_op; go_big_quiet_on))
                refine wpQuiet_nil ?_
                intro _ hw'
                obtain ⟨nq, hw''⟩ := hw'
                subst hw''
                go_wp2
                go_ret2
                exact ⟨rfl, r.out.drewN nq⟩
              · have q5 : decide (km = ke) = false := by simp [hkk]
                have r1 := Lib.hid (show ∀ j (hj : j < k + 1) (hjl : j < ds.length) (m : Nat), ds[j] = (m : Int) → ∀ hmk : m < ks.length, ¬ (m = e ∨ (e < m ∧ ks[m] = ks[e])) from fun j hj hjl m' hm' hmk' => by
                  by_cases hjk : j < k
                  · exact hNB.out j hjk hjl m' hm' hmk'
                  · obtain rfl : j = k := by omega
                    have h1 := HM.out
                    rw [hm'] at h1
                    obtain rfl : m' = m := by omega
                    rintro (h2 | ⟨-, h2⟩)
                    · exact hme h2
                    · exact hkk (by rw [HKM.out, HKE.out]; exact h2))
                clear HKI HSO hNB HDE HC hme hkk
                go_wp2
                refine wp_region_quiet_lit (by kernel_rfl) (by kernel_rfl) ?_
                repeat (first
                  | go_big_quiet_skip
                  | (go_big_quiet_want; refine quiet_load_key (.tmp 50) rfl kb (ko + m * 37) (by simp [Act.eval]) (keyC km) hkl1 HKm.out ?_; simp only [Act.put, List.setIfInBounds_toArray, List.set_cons_succ, List.set_cons_zero]; go_big_quiet_on)
                  | (go_big_quiet_want; refine quiet_load_key (.tmp 54) rfl kb (ko + e * 37) (by simp [Act.eval]) (keyC ke) hkl2 HKe.out ?_; simp only [Act.put, List.setIfInBounds_toArray, List.set_cons_succ, List.set_cons_zero]; go_big_quiet_on)
                  | (go_big_quiet_want; refine quiet_eq_keys (.tmp 51) (.tmp 55) rfl km ke hkom hkoe (by simp [Act.eval]) (by simp [Act.eval]) ?_; simp only [Act.put, List.setIfInBounds_toArray, List.set_cons_succ, List.set_cons_zero]; go_big_quiet_on)
                  | (go_big_quiet_want; go_big_quiet_op; go_big_quiet_on))
                refine wpQuiet_nil ?_
                intro _ hw'
                obtain ⟨nq, hw''⟩ := hw'
                subst hw''
                have r2 := Lib.hid (hS2.out.drewN nq)
                clear hS2
                go_wp2
                go_roundw
                case rel => exact ⟨k + 1, by omega, rfl, r1, r2⟩
                case measure => (try rw [HP2.out]); simp only [intOf]; omega
            · have q3 : decide ((e : Int) < (m : Int)) = false := by simp; omega
              have q4 : decide (e < m) = false := by simp; omega
              have r1 := Lib.hid (show ∀ j (hj : j < k + 1) (hjl : j < ds.length) (m : Nat), ds[j] = (m : Int) → ∀ hmk : m < ks.length, ¬ (m = e ∨ (e < m ∧ ks[m] = ks[e])) from fun j hj hjl m' hm' hmk' => by
                by_cases hjk : j < k
                · exact hNB.out j hjk hjl m' hm' hmk'
                · obtain rfl : j = k := by omega
                  have h1 := HM.out
                  rw [hm'] at h1
                  obtain rfl : m' = m := by omega
                  rintro (h2 | ⟨h2, -⟩)
                  · exact hme h2
                  · exact hgt h2)
              clear HKI HSO hNB HDE HC hme hgt
              go_wp2
              refine wp_region_quiet_lit (by kernel_rfl) (by kernel_rfl) ?_
              repeat (first
                | go_big_quiet_skip
                | (go_big_quiet_want; go_big_quiet_op; go_big_quiet_on))
              refine wpQuiet_nil ?_
              intro _ hw'
              obtain ⟨nq, hw''⟩ := hw'
              subst hw''
              have r2 := Lib.hid (hS2.out.drewN nq)
              clear hS2
              go_wp2
              go_roundw
              case rel => exact ⟨k + 1, by omega, rfl, r1, r2⟩
              case measure => (try rw [HP2.out]); simp only [intOf]; omega
        · obtain rfl : i = k := by omega
          have r1 := Lib.hid (HKI.out.next hids HDE.out.symm hek (fun j hj m hm hmk => hNB.out j hj (by omega) m hm hmk))
          have r2 := Lib.hid (HSO.out.trans hS2.out)
          clear HKI HSO hS2 hNB HDE HC
          go_wp2
          go_roundw
          case rel => exact ⟨i + 1, by omega, rfl, ⟨_, r1⟩, r2⟩
          case measure => (try rw [HP.out]); simp only [intOf]; omega
    · obtain rfl : i = n := by omega
      have hDD := hKI.out.done (by omega)
      subst hDD
      have r := Lib.hid hS.out
      clear hKI
      go_wp2
      go_ret2
      exact ⟨rfl, r.out⟩
end Go.Proofs.Ythjdnhlckjchgaa
