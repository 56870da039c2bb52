/- The walk of patchbaylaw08.StackAlone. -/
import Derived.Test.YtmcffabfghhpaaaStkAbs
import Derived.Test.YtmcffabfghhpaaaAwake08
import Derived.Test.YtmcffabfghhpaaaWithin
namespace Go.Proofs.Ytmcffabfghhpaaa
open Go.RowKit
set_option linter.unusedVariables false

def u64s (L : List Nat) : List Value := L.map fun (x : Nat) => Value.int .u64 (x : Int)
theorem u64s_len (L : List Nat) : (u64s L).length = L.length := by simp [u64s]
theorem u64s_snoc (L : List Nat) (v : Nat) : u64s (L ++ [v]) = u64s L ++ [.int .u64 (v : Int)] := by simp [u64s]
theorem own_pop {w : World} {base : Nat} {e : TypeId} {g cap m : Nat} {xs : List Value} {x : Value} (h : w.ownsRow base e 1 (.slice (some ⟨g, 0, none⟩) (m + 1) cap) (m + 1) (xs ++ [x])) :
    w.ownsRow base e 1 (.slice (some ⟨g, 0, none⟩) m cap) m xs := by
  obtain ⟨h1, h2⟩ := h
  have hx : xs.length = m := by simpa using h1
  refine ⟨by omega, ?_⟩
  rcases h2 with ⟨h2, _⟩ | ⟨g', cap', cur, hv, hg, hh, hn, hc, hsz, ht⟩
  · cases h2
  · cases hv
    refine .inr ⟨g, cap, cur, rfl, hg, hh, by omega, hc, hsz, ?_⟩
    have : cur.toList.take (m * 1) = (cur.toList.take ((m + 1) * 1)).take m := by rw [List.take_take]; congr 1; omega
    rw [this, ht, List.take_append_of_le_length (by omega), List.take_of_length_le (by omega)]

theorem info_u64 : (Try.prog.info? 30).map (fun i => (i.zero, i.size, i.bytes)) = some (some (.int .u64 0), 1, 8) := by kernel_rfl

theorem pow_slots (k : Nat) (hk : k < 7) : ∃ n : Nat, 0 < n ∧ n ≤ 1024 ∧ bits .and .i64 (n : Int) ((n : Int) - 1) = 0 ∧ wrap64 (2 ^ k) = (n : Int) := by
  have : k = 0 ∨ k = 1 ∨ k = 2 ∨ k = 3 ∨ k = 4 ∨ k = 5 ∨ k = 6 := by omega
  rcases this with rfl | rfl | rfl | rfl | rfl | rfl | rfl
  · exact ⟨1, by decide, by decide, by decide, by unfold wrap64; decide⟩
  · exact ⟨2, by decide, by decide, by decide, by unfold wrap64; decide⟩
  · exact ⟨4, by decide, by decide, by decide, by unfold wrap64; decide⟩
  · exact ⟨8, by decide, by decide, by decide, by unfold wrap64; decide⟩
  · exact ⟨16, by decide, by decide, by decide, by unfold wrap64; decide⟩
  · exact ⟨32, by decide, by decide, by decide, by unfold wrap64; decide⟩
  · exact ⟨64, by decide, by decide, by decide, by unfold wrap64; decide⟩

set_option maxRecDepth 100000 in
set_option maxHeartbeats 1600000 in
theorem alone_w (aw an : Option Addr) (lw cw ln cn : Nat) (bs : Nat → Bool) (ns : Nat → Nat) (bits : Int) (W : World)
    (hw : ∀ j, j < lw → ∃ b off, aw = some ⟨b, off, none⟩ ∧ b < W.heap.size ∧ W.cell? ⟨b, off + j, none⟩ = some (.bool (bs j)))
    (hn : ∀ j, j < ln → ∃ b off, an = some ⟨b, off, none⟩ ∧ b < W.heap.size ∧ W.cell? ⟨b, off + j, none⟩ = some (.int .u64 (ns j : Int)))
    (hns : ∀ j, j < ln → ns j < 18446744073709551616) (hlw : lw ≤ 9223372036854775807) (hln : ln ≤ 9223372036854775807) :
    Calls Try.prog 3 #[.slice aw lw cw, .slice an ln cn, .int .i64 bits] W fun e w => e = .returned (.bool true) ∧ Below W.heap.size W w := by
  obtain ⟨i0, hi, hz0, hz1, hz2⟩ := info_parts info_u64
  have Hi := Lib.hid hi
  have Hz0 := Lib.hid hz0
  have Hz1 := Lib.hid hz1
  have Hz2 := Lib.hid hz2
  clear hi hz0 hz1 hz2
  have HW := Lib.hid hw
  have HN := Lib.hid hn
  have HNS := Lib.hid hns
  clear hw hn hns
  go_enter Try.func3, Try.ntmps3
  go_wp2_with fail
  refine (awake_c W).mono ?_
  rintro e w0 ⟨rfl, hs0⟩
  have HS0 := Lib.hid hs0
  clear hs0
  go_wp2_with fail
  refine (within_c bits 5 (by decide) (by decide) _).mono ?_
  rintro e w0 ⟨rfl, rfl⟩
  have hk : wi bits 5 < 5 := by have := wi_lt bits 5 (by decide); omega
  generalize wi bits 5 = k at *
  obtain ⟨n, hn0, hn1, hbp, hwr⟩ := pow_slots k (by omega)
  have HBP := Lib.hid hbp
  clear hbp
  go_wp2_with fail
  refine (new_a n hn0 hn1 HBP.out w0).mono ?_
  rintro e w1 ⟨rfl, hs1, ha1⟩
  have ha1' := Lib.hid ha1
  have hz1 : w0.heap.size + 1 < w1.heap.size := by
    obtain ⟨_, _, _, _, _, h, _⟩ := ha1
    exact h.rS.lt
  clear ha1
  obtain ⟨S, hS⟩ : ∃ S, S = w0.heap.size + 1 := ⟨_, rfl⟩
  obtain ⟨N, hN⟩ : ∃ N, N = w0.heap.size := ⟨_, rfl⟩
  rw [← hS, ← hN] at ha1'
  rw [← hS] at hz1
  rw [← hS]
  have HSS := Lib.hid hS
  have HNN := Lib.hid hN
  clear hS hN
  have HT : Hid (two S N = fun k => k = S ∨ k = N) := rfl
  have hbase : S < w1.heap.size ∧ N < w1.heap.size := ⟨by omega, by rw [HNN.out]; rw [HSS.out] at hz1; omega⟩
  obtain ⟨hSb, hNb⟩ := hbase
  obtain ⟨B, hB⟩ : ∃ B, B = w1.heap.size := ⟨_, rfl⟩
  rw [← hB] at hSb hNb
  have HB := Lib.hid hB
  clear hB hz1
  have hW0 : Below W.heap.size W w1 := (HS0.out.trans hs1).below (Nat.le_refl _) (fun _ h => h.elim)
  have hWB : W.heap.size ≤ N ∧ W.heap.size ≤ S := by
    have := HS0.out.size
    rw [HNN.out, HSS.out]
    omega
  obtain ⟨hWN, hWS⟩ := hWB
  have hBle : B ≤ w1.heap.size := by rw [HB.out]; omega
  go_wp2
  go_loopw [10, 11] (fun s10 s11 wr => ∃ (i : Nat) (L : List Nat), i ≤ lw ∧ i ≤ 200 ∧ s11 = .int .i64 i ∧ AS S N n L.reverse wr ∧ (∀ x ∈ L, x < 18446744073709551616) ∧ wr.ownsRow B 30 1 s10 L.length (u64s L) ∧ L.length ≤ i ∧ Below W.heap.size W wr ∧ B ≤ wr.heap.size) (fun _ s11 _ => 200 - (intOf s11).toNat)
  case atStart => exact ⟨0, [], by omega, by omega, rfl, ha1'.out, by simp, World.ownsRow_nil _ _ _ _, by simp, hW0, hBle⟩
  case round =>
    obtain ⟨i, L, hi1, hi2, rfl, hAS, hLv, hown, hLi, hbel, hBr⟩ := hrel
    obtain ⟨a10, c10, hu10⟩ := own_form0 hown
    subst hu10
    by_cases hlt : i < lw ∧ i < 200
    · obtain ⟨hlt1, hlt2⟩ := hlt
      obtain ⟨bw, ow, haw, hbw, hcw⟩ := HW.out i hlt1
      subst haw
      have hcw' : wr.cell? ⟨bw, ow + i, none⟩ = some (.bool (bs i)) := (hbel.cell (p := ⟨bw, ow + i, none⟩) hbw).trans hcw
      have j1 : (i : Int) < (lw : Int) := by omega
      have j2 : (i : Int) < 200 := by omega
      have HAS := Lib.hid hAS
      have HOWN := Lib.hid hown
      have HLV := Lib.hid hLv
      clear hAS hown hLv hcw
      cases hbi : bs i with
      | true =>
        rw [hbi] at hcw'
        clear hbi
        have hv : ∃ v : Nat, v < 18446744073709551616 ∧ ((i < ln ∧ ∃ bn on, an = some ⟨bn, on, none⟩ ∧ wr.cell? ⟨bn, on + i, none⟩ = some (.int .u64 (v : Int))) ∨ (¬ i < ln ∧ i = v)) := by
          by_cases hin : i < ln
          · obtain ⟨bn, on, e1, hbn, hcn⟩ := HN.out i hin
            exact ⟨ns i, HNS.out i hin, .inl ⟨hin, bn, on, e1, (hbel.cell (p := ⟨bn, on + i, none⟩) hbn).trans hcn⟩⟩
          · exact ⟨i, by omega, .inr ⟨hin, rfl⟩⟩
        obtain ⟨v, hv1, hv2⟩ := hv
        by_cases hfull : L.length < n
        · have P := Lib.hid (push_a (S := S) (N := N) L.reverse v hv1 wr HAS.out (by simpa using hfull))
          have hf1 : (L.length : Int) < (n : Int) := by omega
          rcases hv2 with ⟨hin, bn, on, hvn, hcn⟩ | ⟨hin, rfl⟩
          · subst hvn
            have j3 : (i : Int) < (ln : Int) := by omega
            go_wp2_with fail
            refine P.out.mono ?_
            rintro e w3 ⟨rfl, hAS3, hs3⟩
            have HAS3 := Lib.hid hAS3
            have HOWN3 := Lib.hid (own_sm HOWN.out hs3 (fun b hb hf => by rcases hf with rfl | rfl <;> omega))
            have hB3 : B ≤ w3.heap.size := Nat.le_trans hBr hs3.size
            have hbel3 : Below W.heap.size W w3 := hbel.trans (hs3.below (by have := hbel.size; omega) (fun k hk => by rcases hk with rfl | rfl <;> omega))
            clear hAS3 hs3
            go_wp2_with (at_builtin; refine wpList_append_own _ rfl (.tmp 82) (.tmp 84) 23 rfl B 30 i0 (.int .u64 0) 1 8 Try.underlying23 Hi.out Hz0.out Hz1.out Hz2.out rfl (by decide) _ L.length (u64s L) rfl (HOWN3.out.alloc _) ⟨w3.heap.size, 0, none⟩ 1 1 [.int .u64 (v : Int)] rfl rfl (new_cells w3 [.int .u64 (v : Int)] 30) (by simp [Value.oneCell']) (by unfold maxLen; omega) (by omega) (by simp; omega) ?_; intro v' w4 hown4 hg4 _)
            have hs4 : Sm (fun k => B ≤ k) w3 w4 := ((Sm.refl _ w3).alloc _).trans (sm_grown hg4 fun k e => (HOWN3.out.lt k e).1)
            have HAS4 := Lib.hid (HAS3.out.sm hs4 (by omega) (by omega))
            have hbel4 : Below W.heap.size W w4 := hbel3.trans (hs4.below (by have := hbel3.size; omega) (fun k hk => by omega))
            have hB4 : B ≤ w4.heap.size := Nat.le_trans hB3 hs4.size
            have HOWN4 := Lib.hid hown4
            clear hown4 hg4 hs4
            go_wp2
            go_roundw
            case rel =>
              refine ⟨i + 1, L ++ [v], by omega, by omega, by go_num, ?_, ?_, ?_, by simp; omega, hbel4, hB4⟩
              · simpa using HAS4.out
              · intro x hx
                simp only [List.mem_append, List.mem_singleton] at hx
                rcases hx with hx | rfl
                · exact HLV.out x hx
                · exact hv1
              · rw [u64s_snoc, List.length_append]
                exact HOWN4.out
            case measure => simp [intOf] <;> omega
          · have j3 : ¬ (i : Int) < (ln : Int) := by omega
            go_wp2_with fail
            refine P.out.mono ?_
            rintro e w3 ⟨rfl, hAS3, hs3⟩
            have HAS3 := Lib.hid hAS3
            have HOWN3 := Lib.hid (own_sm HOWN.out hs3 (fun b hb hf => by rcases hf with rfl | rfl <;> omega))
            have hB3 : B ≤ w3.heap.size := Nat.le_trans hBr hs3.size
            have hbel3 : Below W.heap.size W w3 := hbel.trans (hs3.below (by have := hbel.size; omega) (fun k hk => by rcases hk with rfl | rfl <;> omega))
            clear hAS3 hs3
            go_wp2_with (at_builtin; refine wpList_append_own _ rfl (.tmp 82) (.tmp 84) 23 rfl B 30 i0 (.int .u64 0) 1 8 Try.underlying23 Hi.out Hz0.out Hz1.out Hz2.out rfl (by decide) _ L.length (u64s L) rfl (HOWN3.out.alloc _) ⟨w3.heap.size, 0, none⟩ 1 1 [.int .u64 (i : Int)] rfl rfl (new_cells w3 [.int .u64 (i : Int)] 30) (by simp [Value.oneCell']) (by unfold maxLen; omega) (by omega) (by simp; omega) ?_; intro v' w4 hown4 hg4 _)
            have hs4 : Sm (fun k => B ≤ k) w3 w4 := ((Sm.refl _ w3).alloc _).trans (sm_grown hg4 fun k e => (HOWN3.out.lt k e).1)
            have HAS4 := Lib.hid (HAS3.out.sm hs4 (by omega) (by omega))
            have hbel4 : Below W.heap.size W w4 := hbel3.trans (hs4.below (by have := hbel3.size; omega) (fun k hk => by omega))
            have hB4 : B ≤ w4.heap.size := Nat.le_trans hB3 hs4.size
            have HOWN4 := Lib.hid hown4
            clear hown4 hg4 hs4
            go_wp2
            go_roundw
            case rel =>
              refine ⟨i + 1, L ++ [i], by omega, by omega, by go_num, ?_, ?_, ?_, by simp; omega, hbel4, hB4⟩
              · simpa using HAS4.out
              · intro x hx
                simp only [List.mem_append, List.mem_singleton] at hx
                rcases hx with hx | rfl
                · exact HLV.out x hx
                · exact hv1
              · rw [u64s_snoc, List.length_append]
                exact HOWN4.out
            case measure => simp [intOf] <;> omega
        · have hfe : L.length = n := by have := AS.le HAS.out; simp at this; omega
          have P := Lib.hid (push_b (S := S) (N := N) L.reverse (v : Int) wr HAS.out (by simpa using hfe))
          have hf1 : ¬ (L.length : Int) < (n : Int) := by omega
          clear hfe
          rcases hv2 with ⟨hin, bn, on, hvn, hcn⟩ | ⟨hin, rfl⟩
          · subst hvn
            have j3 : (i : Int) < (ln : Int) := by omega
            go_wp2_with fail
            refine P.out.mono ?_
            rintro e w3 ⟨rfl, hAS3, hs3⟩
            have HAS3 := Lib.hid hAS3
            have HOWN3 := Lib.hid (own_sm HOWN.out hs3 (fun b hb hf => by rcases hf with rfl | rfl <;> omega))
            have hB3 : B ≤ w3.heap.size := Nat.le_trans hBr hs3.size
            have hbel3 : Below W.heap.size W w3 := hbel.trans (hs3.below (by have := hbel.size; omega) (fun k hk => by rcases hk with rfl | rfl <;> omega))
            clear hAS3 hs3
            go_wp2
            go_roundw
            case rel => exact ⟨i + 1, L, by omega, by omega, by go_num, HAS3.out, HLV.out, HOWN3.out, by omega, hbel3, hB3⟩
            case measure => simp [intOf] <;> omega
          · have j3 : ¬ (i : Int) < (ln : Int) := by omega
            go_wp2_with fail
            refine P.out.mono ?_
            rintro e w3 ⟨rfl, hAS3, hs3⟩
            have HAS3 := Lib.hid hAS3
            have HOWN3 := Lib.hid (own_sm HOWN.out hs3 (fun b hb hf => by rcases hf with rfl | rfl <;> omega))
            have hB3 : B ≤ w3.heap.size := Nat.le_trans hBr hs3.size
            have hbel3 : Below W.heap.size W w3 := hbel.trans (hs3.below (by have := hbel.size; omega) (fun k hk => by rcases hk with rfl | rfl <;> omega))
            clear hAS3 hs3
            go_wp2
            go_roundw
            case rel => exact ⟨i + 1, L, by omega, by omega, by go_num, HAS3.out, HLV.out, HOWN3.out, by omega, hbel3, hB3⟩
            case measure => simp [intOf] <;> omega
      | false =>
        rw [hbi] at hcw'
        clear hbi
        have hcat : L = [] ∨ ∃ L' v, L = L' ++ [v] := by simpa [List.concat_eq_append] using List.eq_nil_or_concat L
        rcases hcat with rfl | ⟨L', v, rfl⟩
        · have P := Lib.hid (pop_b (S := S) (N := N) (n := n) wr HAS.out)
          go_wp2_with fail
          refine P.out.mono ?_
          rintro e w3 ⟨rfl, hAS3, hs3⟩
          have HAS3 := Lib.hid hAS3
          have HOWN3 := Lib.hid (own_sm HOWN.out hs3 (fun b hb hf => by rcases hf with rfl | rfl <;> omega))
          have hB3 : B ≤ w3.heap.size := Nat.le_trans hBr hs3.size
          have hbel3 : Below W.heap.size W w3 := hbel.trans (hs3.below (by have := hbel.size; omega) (fun k hk => by rcases hk with rfl | rfl <;> omega))
          clear hAS3 hs3
          go_wp2
          go_roundw
          case rel => exact ⟨i + 1, [], by omega, by omega, by go_num, HAS3.out, by simp, HOWN3.out, by simp, hbel3, hB3⟩
          case measure => simp [intOf]; omega
        · have P := Lib.hid (pop_a (S := S) (N := N) (n := n) L'.reverse v wr (by simpa using HAS.out))
          obtain ⟨m, hm⟩ : ∃ m, m = L'.length := ⟨_, rfl⟩
          have hlen : (L' ++ [v]).length = m + 1 := by rw [hm]; simp
          rw [hlen]
          rw [hlen] at hLi
          have hO := HOWN.out
          rw [hlen, u64s_snoc] at hO
          obtain ⟨g, c', hf⟩ := own_form hO (by omega)
          simp only [Value.slice.injEq] at hf
          obtain ⟨rfl, -, -⟩ := hf
          have hcap : m + 1 ≤ c10 := own_cap hO
          have HO := Lib.hid hO
          have HM := Lib.hid hm
          clear hO HOWN hlen hm
          go_wp2_with fail
          refine P.out.mono ?_
          rintro e w3 ⟨rfl, hAS3, hs3⟩
          have HAS3 := Lib.hid hAS3
          have HO3 := Lib.hid (own_sm HO.out hs3 (fun b hb hf => by rcases hf with rfl | rfl <;> omega))
          have hB3 : B ≤ w3.heap.size := Nat.le_trans hBr hs3.size
          have hbel3 : Below W.heap.size W w3 := hbel.trans (hs3.below (by have := hbel.size; omega) (fun k hk => by rcases hk with rfl | rfl <;> omega))
          have hc3 : w3.cell? ⟨g, m, none⟩ = some (.int .u64 (v : Int)) := by
            rw [HO3.out.cellAt m (by omega), HM.out]
            have e : (u64s L').length = L'.length := u64s_len L'
            rw [List.getElem?_append_right (by omega), e]
            simp
          have hpos : (0 : Int) < (m : Int) + 1 := by omega
          clear hAS3 hs3
          go_wp2
          go_roundw
          case rel => exact ⟨i + 1, L', by omega, by omega, by go_num, HAS3.out, fun x hx => HLV.out x (by simp [hx]), by rw [← HM.out]; exact own_pop HO3.out, by rw [← HM.out]; omega, hbel3, hB3⟩
          case measure => simp [intOf]; omega
    · have hge : ¬ ((i : Int) < (lw : Int) ∧ (i : Int) < 200) := by omega
      have HGE := Lib.hid hge
      have hAS2 := Lib.hid hAS
      have HOWN := Lib.hid hown
      clear hge hAS hown hLv
      have hdec : (lw : Int) ≤ (i : Int) ∨ ((i : Int) < (lw : Int) ∧ (200 : Int) ≤ (i : Int)) := by omega
      clear hlt
      rcases hdec with hd | ⟨hd, hd2⟩
      all_goals
        go_wp2
        go_loopw [18] (fun s18 wx => ∃ (q : Nat) (z : Int), q ≤ L.length ∧ z + 1 = (q : Int) ∧ s18 = .int .i64 z ∧ Hid (AS S N n (L.take q).reverse wx) ∧ Hid (wx.ownsRow B 30 1 (.slice a10 L.length c10) L.length (u64s L)) ∧ Below W.heap.size W wx ∧ B ≤ wx.heap.size) (fun s18 _ => (intOf s18 + 1).toNat)
        case atStart => exact ⟨L.length, _, Nat.le_refl _, by omega, rfl, Lib.hid (by rw [List.take_length]; exact hAS2.out), HOWN, hbel, hBr⟩
        case round =>
          rename_i wx _
          obtain ⟨q, z, hq, hz, rfl, hAS3, hO3, hbel3, hB3⟩ := hrel
          cases q with
          | zero =>
            have hz' : z < 0 := by omega
            have P := Lib.hid (pop_b (S := S) (N := N) (n := n) _ (by simpa using hAS3.out))
            have HZ := Lib.hid hz
            clear hz
            go_wp2_with fail
            refine P.out.mono ?_
            rintro e w4 ⟨rfl, hAS4, hs4⟩
            have hbel4 : Below W.heap.size W w4 := hbel3.trans (hs4.below (by have := hbel3.size; omega) (fun k hk => by rcases hk with rfl | rfl <;> omega))
            clear hAS4 hs4
            go_wp2
            go_ret
            exact ⟨rfl, hbel4⟩
          | succ q =>
            obtain rfl : z = (q : Int) := by omega
            have hqL : q < L.length := by omega
            have hrev : (L.take (q + 1)).reverse = L[q] :: (L.take q).reverse := by
              rw [List.take_succ_eq_append_getElem hqL]; simp
            have P := Lib.hid (pop_a (S := S) (N := N) (n := n) (L.take q).reverse L[q] _ (by rw [← hrev]; exact hAS3.out))
            obtain ⟨g, c', hf⟩ := own_form hO3.out (by omega)
            simp only [Value.slice.injEq] at hf
            obtain ⟨rfl, -, -⟩ := hf
            obtain ⟨v, hv⟩ : ∃ v, v = L[q] := ⟨_, rfl⟩
            rw [← hv] at P
            have HV := Lib.hid hv
            have HZ := Lib.hid hz
            clear hz hrev hv
            go_wp2_with fail
            refine P.out.mono ?_
            rintro e w4 ⟨rfl, hAS4, hs4⟩
            have HAS4 := Lib.hid hAS4
            have HO4 := Lib.hid (own_sm hO3.out hs4 (fun b hb hf => by rcases hf with rfl | rfl <;> omega))
            have hB4 : B ≤ w4.heap.size := Nat.le_trans hB3 hs4.size
            have hbel4 : Below W.heap.size W w4 := hbel3.trans (hs4.below (by have := hbel3.size; omega) (fun k hk => by rcases hk with rfl | rfl <;> omega))
            have hc4 : w4.cell? ⟨g, q, none⟩ = some (.int .u64 (v : Int)) := by
              rw [HO4.out.cellAt q (by omega), HV.out]
              simp [u64s, hqL]
            have j4 : (q : Int) < (L.length : Int) := by omega
            clear hAS4 hs4
            go_wp2
            go_roundw
            case rel => exact ⟨q, (q : Int) - 1, by omega, by omega, rfl, HAS4, HO4, hbel4, hB4⟩
            case measure => simp [intOf] <;> omega
end Go.Proofs.Ytmcffabfghhpaaa
