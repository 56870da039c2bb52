/- The reference's order (patchbayref25.Order): in memory; its find. -/
import Derived.Test.YthjdnhlckjchgaaLanR
namespace Go.Proofs.Ythjdnhlckjchgaa
open Go.RowKit
set_option linter.unusedVariables false
set_option linter.unusedSimpArgs false

def waitC (p : Wt) : List Value := [.int .i64 p.1.1, .int .u64 (p.1.2 : Int), .int .i64 p.2]
theorem waitC_3 (ws : List Wt) : ∀ r ∈ ws.map waitC, r.length = 3 := by
  intro r hr
  obtain ⟨p, -, rfl⟩ := List.mem_map.1 hr
  rfl
/-- The reference's order in memory. -/
structure RefL (BR O N : Nat) (nx : List Nat) (room : Nat) (ws : List Wt) (vW : Value) (w : World) : Prop where
  rO : Row w O #[.slice (some ⟨N, 0, none⟩) nx.length nx.length, .int .i64 (room : Int), vW] 45
  rN : Row w N (uw nx) 36
  own : w.ownsRow BR 123 3 vW ws.length (ws.map waitC).flatten
  ge : BR ≤ N ∧ N < O
theorem RefL.sm {F : Nat → Prop} {BR O N : Nat} {nx : List Nat} {room : Nat} {ws : List Wt} {vW : Value} {w w' : World} (h : RefL BR O N nx room ws vW w) (k : Sm F w w') (hO : ¬ F O) (hN : ¬ F N) (hW : ∀ b, vW.ownBlock = some b → ¬ F b) : RefL BR O N nx room ws vW w' :=
  ⟨h.rO.sm k hO, h.rN.sm k hN, own_keep h.own k hW, h.ge⟩
theorem RefL.fresh {BR O N : Nat} {nx : List Nat} {room : Nat} {ws : List Wt} {vW : Value} {w w' : World} (h : RefL BR O N nx room ws vW w) (k : Sm (fun _ => False) w w') : RefL BR O N nx room ws vW w' := h.sm k (fun h => h) (fun h => h) (fun _ _ h => h)
/-- Where a stamp waits. -/
def findP (a : Int) (s : Nat) (p : Wt) : Bool := p.1 == (a, s)
def findI (ws : List Wt) (a : Int) (s : Nat) : Int := if ws.findIdx (findP a s) < ws.length then (ws.findIdx (findP a s) : Nat) else -1
theorem findI_none {ws : List Wt} {a : Int} {s : Nat} (h : ∀ j (hj : j < ws.length), ws[j].1 ≠ (a, s)) : findI ws a s = -1 := by
  have : ws.findIdx (findP a s) = ws.length := List.findIdx_eq_length.2 (fun x hx => by
    obtain ⟨j, hj, rfl⟩ := List.mem_iff_getElem.1 hx
    simp [findP, h j hj])
  unfold findI
  rw [if_neg (by omega)]
theorem findI_some {ws : List Wt} {a : Int} {s i : Nat} (hi : i < ws.length) (he : ws[i].1 = (a, s)) (h : ∀ j (hj : j < ws.length), j < i → ws[j].1 ≠ (a, s)) : findI ws a s = (i : Int) := by
  have : ws.findIdx (findP a s) = i := (List.findIdx_eq hi).2 ⟨by simp [findP, he], fun j hj => by simp [findP, h j (by omega) hj]⟩
  unfold findI
  rw [this, if_pos hi]
theorem wait_at {BR O N : Nat} {nx : List Nat} {room : Nat} {ws : List Wt} {w : World} {A : Option Addr} {c : Nat} (h : RefL BR O N nx room ws (.slice A ws.length c) w) {i : Nat} (hi : i < ws.length) :
    ∃ g, A = some ⟨g, 0, none⟩ ∧ w.cell? ⟨g, i * 3, none⟩ = some (.int .i64 ws[i].1.1) ∧ w.cell? ⟨g, i * 3 + 1, none⟩ = some (.int .u64 (ws[i].1.2 : Int)) ∧ w.cell? ⟨g, i * 3 + 2, none⟩ = some (.int .i64 ws[i].2) := by
  obtain ⟨a', c', e, -, -, hr⟩ := own_reads (by decide) h.own
  simp only [Value.slice.injEq] at e
  obtain ⟨rfl, -, rfl⟩ := e
  obtain ⟨g, ha, -, -, hc⟩ := hr (by omega)
  have q : ∀ k v, (waitC ws[i])[k]? = some v → w.cell? ⟨g, i * 3 + k, none⟩ = some v := fun k v hv => hc _ v (flat_get 3 _ (waitC_3 ws) i (by simpa using hi) k v (by simpa using hv))
  exact ⟨g, ha, q 0 _ rfl, q 1 _ rfl, q 2 _ rfl⟩

set_option maxRecDepth 100000 in
set_option maxHeartbeats 1600000 in
theorem find_c (BR O N : Nat) (nx : List Nat) (room : Nat) (ws : List Wt) (vW : Value) (w : World) (h : RefL BR O N nx room ws vW w) (hl : ws.length < 1000000) (a : Int) (s : Nat) :
    Calls Try.prog 36 #[.pointer (some ⟨O, 0, none⟩), .agg #[.int .i64 a, .int .u64 (s : Int)]] w fun e w' => e = .returned (.int .i64 (findI ws a s)) ∧ Sm (fun _ => False) w w' := by
  obtain ⟨aW, cW, rfl⟩ := own_form0 h.own
  have hr := Row.new w #[.int .i64 a, .int .u64 (s : Int)] 38
  have hs : Sm (fun _ => False) w (w.alloc (.cells #[.int .i64 a, .int .u64 (s : Int)] 38 (0, 0))) := (Sm.refl _ _).alloc _
  obtain ⟨w1, hw1⟩ : ∃ w1, w1 = w.alloc (.cells #[.int .i64 a, .int .u64 (s : Int)] 38 (0, 0)) := ⟨_, rfl⟩
  obtain ⟨X, hX⟩ : ∃ X, X = w.heap.size := ⟨_, rfl⟩
  rw [← hw1, ← hX] at hr
  rw [← hw1] at hs
  have H := Lib.hid (h.fresh hs)
  have HR := Lib.hid hr
  have HS := Lib.hid hs
  have HW := Lib.hid hw1
  have HX := Lib.hid hX
  obtain ⟨n, hn⟩ : ∃ n, n = ws.length := ⟨_, rfl⟩
  have HN := Lib.hid hn
  rw [← hn] at hl
  clear h hr hs hw1 hX hn
  go_enter Try.func36, Try.ntmps36
  go_wp2
  rw [← HW.out, ← HX.out]
  go_loopw [5] (fun s5 wr => ∃ i : Nat, i ≤ n ∧ s5 = .int .i64 i ∧ Hid (Sm (fun _ => False) w1 wr) ∧ Hid (∀ j (hj : j < ws.length), j < i → ws[j].1 ≠ (a, s))) (fun s5 wr => n - (intOf s5).toNat)
  case atStart => exact ⟨0, Nat.zero_le _, rfl, Lib.hid (Sm.refl _ _), Lib.hid (fun j hj h => absurd h (Nat.not_lt_zero _))⟩
  case round =>
    obtain ⟨i, hi, rfl, hS, hne⟩ := hrel
    have h2 := H.out.fresh hS.out
    have r2 := HR.out.sm hS.out (fun h => h)
    have c2 := h2.rO.cell 2
    have b0 := r2.cell 0
    have b1 := r2.cell 1
    simp only [List.getElem?_toArray, List.getElem?_cons_zero, List.getElem?_cons_succ] at c2 b0 b1
    rw [← HN.out] at c2
    by_cases hlt : i < n
    · have hiw : i < ws.length := by rw [← HN.out]; exact hlt
      obtain ⟨g, rfl, k0, k1, -⟩ := wait_at h2 hiw
      have j1 : (i : Int) < (n : Int) := by omega
      obtain ⟨p, hp⟩ : ∃ p, p = ws[i] := ⟨_, rfl⟩
      rw [← hp] at k0 k1
      obtain ⟨⟨pa, ps⟩, px⟩ := p
      simp only at k0 k1
      by_cases he : (pa, ps) = (a, s)
      · simp only [Prod.mk.injEq] at he
        obtain ⟨rfl, rfl⟩ := he
        have hf := findI_some hiw (by rw [← hp]) hne.out
        have HF := Lib.hid hf
        have HS2 := Lib.hid (HS.out.trans hS.out)
        clear hf h2 r2 hp hne hS
        go_wp2_with fail
        try simp only [Act.put]
        refine wp_region_quiet_lit (by kernel_rfl) (by kernel_rfl) ?_
        repeat (first
          | go_big_quiet_skip
          | (go_big_quiet_want; go_big_quiet_op; go_big_quiet_on))
        refine wpQuiet_nil ?_
        intro _ hw'
        obtain ⟨nq, hw''⟩ := hw'
        subst hw''
        go_wp2_with fail
        go_ret
        exact ⟨by rw [HF.out]; rfl, HS2.out.drewN nq⟩
      · have hd : ¬ (pa = a ∧ ps = s) := fun h => he (by rw [h.1, h.2])
        have hn2 : ∀ j (hj : j < ws.length), j < i + 1 → ws[j].1 ≠ (a, s) := fun j hj h => by
          rcases Nat.lt_succ_iff_lt_or_eq.1 h with h | rfl
          · exact hne.out j hj h
          · rw [← hp]
            exact he
        have HN2 := Lib.hid hn2
        have HP := Lib.hid (show wrap64 ((i : Int) + 1) = ((i + 1 : Nat) : Int) by unfold wrap64; omega)
        have hd2 : ¬ pa = a ∨ (pa = a ∧ ¬ (ps : Int) = (s : Int)) := by
          by_cases e : pa = a
          · exact .inr ⟨e, fun e2 => hd ⟨e, by omega⟩⟩
          · exact .inl e
        clear h2 r2 hp hne hn2 he hd
        rcases hd2 with e1 | ⟨e1, e2⟩
        · go_wp2_with fail
          try simp only [Act.put]
          refine wp_region_quiet_lit (by kernel_rfl) (by kernel_rfl) ?_
          repeat (first
            | go_big_quiet_skip
            | (go_big_quiet_want; go_big_quiet_op; go_big_quiet_on))
          refine wpQuiet_nil ?_
          intro _ hw'
          obtain ⟨nq, hw''⟩ := hw'
          subst hw''
          have HS2 := Lib.hid (hS.out.drewN nq)
          clear hS
          go_wp2_with fail
          go_roundw
          case rel => exact ⟨i + 1, by omega, by first | rw [HP.out] | go_num, HS2, HN2⟩
          case measure => (try rw [HP.out]); simp only [intOf]; omega
        · subst e1
          go_wp2_with fail
          try simp only [Act.put]
          refine wp_region_quiet_lit (by kernel_rfl) (by kernel_rfl) ?_
          repeat (first
            | go_big_quiet_skip
            | (go_big_quiet_want; go_big_quiet_op; go_big_quiet_on))
          refine wpQuiet_nil ?_
          intro _ hw'
          obtain ⟨nq, hw''⟩ := hw'
          subst hw''
          have HS2 := Lib.hid (hS.out.drewN nq)
          clear hS
          go_wp2_with fail
          go_roundw
          case rel => exact ⟨i + 1, by omega, by first | rw [HP.out] | go_num, HS2, HN2⟩
          case measure => (try rw [HP.out]); simp only [intOf]; omega
    · obtain rfl : i = n := by omega
      have hf := findI_none (ws := ws) (a := a) (s := s) (fun j hj => hne.out j hj (by rw [HN.out]; exact hj))
      have HF := Lib.hid hf
      have HS2 := Lib.hid (HS.out.trans hS.out)
      clear hf h2 r2 hne hS
      go_wp2_with fail
      go_ret
      exact ⟨by rw [HF.out]; rfl, HS2.out⟩
end Go.Proofs.Ythjdnhlckjchgaa
