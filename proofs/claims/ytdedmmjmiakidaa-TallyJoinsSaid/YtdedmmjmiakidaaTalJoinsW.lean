/- patchbaylaw11.TallyJoins, walked alone: true. -/
import Derived.Test.YtdedmmjmiakidaaTalX
import Derived.StillTailTactics
namespace Go.Proofs.Ytdedmmjmiakidaa
open Go.RowKit
set_option linter.unusedVariables false
set_option linter.unusedSimpArgs false

theorem Sm.setRowX {F : Nat → Prop} {a w : World} (h : Sm F a w) {g : Nat} (hg : F g) (c : Array Value) : Sm F a (w.setRow g c) :=
  ⟨h.os, h.tape, h.output, by have := h.size; simpa [World.setRow] using this, fun k hk hf => (setRow_other w g k c (fun e => hf (e ▸ hg))).trans (h.block k hk hf)⟩
theorem wpList_load_g67 {ops : Array Oper} {rest : List Oper} {o : Oper} {a : Act} {w : World} {Q : Exit → Act → World → Prop} (hw : Region.wanted o (yielded ops a.tmps) = true) (x : Operand) (ho : o.op = .load 26 x)
    (b : Nat) {T : TypeId} (hx : a.eval x = .pointer (some ⟨b, 0, none⟩)) (m : List Nat) (hlen : m.length = 67) (hr : Row w b (uw m) T) (h : wpList Try.prog ops Q rest (a.put o.dst (.agg (uw m))) w) : wpList Try.prog ops Q (o :: rest) a w :=
  wpList_step fun K hK => by
    rw [if_pos hw]
    exact wp_load_h67 x ho b 0 hx m hlen hr.range (hK _ _ h)
theorem BelowIs.lt64 {m : List Nat} {p o a b : Nat} (h : BelowIs m p o a b) : a < 18446744073709551616 := by
  rcases h with ⟨_, rfl, _⟩ | ⟨_, _, rfl, _⟩ | ⟨_, _, k, hk, _, _, rfl, _⟩
  · decide
  · decide
  · have : 2 ^ k ≤ 2 ^ 64 := Nat.pow_le_pow_right (by decide) (by omega)
    omega
def cntP (v : Nat) (l : List Nat) (i : Nat) : Nat := (l.take i).countP fun x => decide (x ≤ v)
theorem cntP_succ (v : Nat) (l : List Nat) (i : Nat) (h : i < l.length) : cntP v l (i + 1) = cntP v l i + if l.getD i 0 ≤ v then 1 else 0 := by
  unfold cntP
  rw [take_snoc' l i h, List.countP_append]
  simp [List.countP_cons]
theorem cntP_le (v : Nat) (l : List Nat) (i : Nat) : cntP v l i ≤ i := by
  unfold cntP
  exact Nat.le_trans List.countP_le_length (by simp; omega)
theorem cntP_all (v : Nat) (l : List Nat) (i : Nat) (h : i = l.length) : cntP v l i = l.countP fun x => decide (x ≤ v) := by
  unfold cntP
  rw [h, List.take_length]
theorem joins_end {w w1 w2 w3 w7 : World} {H1 B0 : Nat} (h1 : Sm (fun _ => False) w w1) (h2 : Sm (fun _ => False) w1 w2) (h3 : Sm (fun _ => False) w2 w3) (h7 : Sm (fun k => k = H1 ∨ B0 ≤ k) w3 w7) (hH : H1 = w2.heap.size) (hB : w2.heap.size ≤ B0) : Sm (fun _ => False) w w7 := by
  have g := (h1.trans h2).trans h3
  have z := (h1.trans h2).size
  exact ⟨h7.os.trans g.os, h7.tape.trans g.tape, h7.output.trans g.output, Nat.le_trans g.size h7.size, fun k hk hf => (h7.block k (Nat.lt_of_lt_of_le hk g.size) (by omega)).trans (g.block k hk hf)⟩
theorem catB_mem_lt (Z : Nat → List Nat) (n : Nat) (h : ∀ r, r < n → ∀ x ∈ Z r, x < 18446744073709551616) : ∀ k, k ≤ n → ∀ x ∈ catB Z n k, x < 18446744073709551616
  | 0, _ => by simp [catB]
  | k + 1, hk => by
    intro x hx
    rcases List.mem_append.1 hx with h1 | h1
    · exact catB_mem_lt Z n h k (by omega) x h1
    · exact h _ (by omega) x h1

set_option maxRecDepth 100000 in
set_option maxHeartbeats 1600000 in
theorem joins_walk (a : Option Addr) (b off n c : Nat) (V : Nat → Value) (ha : 0 < n → a = some ⟨b, off, none⟩) (hn : n ≤ 9223372036854775807) (part ofN : Nat) (hp : part < 18446744073709551616) (ho : ofN < 18446744073709551616) (w : World) (h : RowsArg b off n V w) :
    Calls Try.prog 4 #[.slice a n c, .int .u64 part, .int .u64 ofN] w fun e w' => e = .returned (.bool true) ∧ Sm (fun _ => False) w w' := by
  have HH := Lib.hid h
  have HA := Lib.hid ha
  clear h ha
  go_enter Try.func4, Try.ntmps4
  go_wp2_with fail
  refine (awake_c _).mono ?_
  rintro e w1 ⟨rfl, hs1⟩
  have HS1 := Lib.hid hs1
  have HR1 := Lib.hid (HH.out.sm hs1)
  clear hs1
  go_wp2_with fail
  refine (few_c a b off n c 40 V HA.out hn (by decide) (by decide) w1 HR1.out).mono ?_
  rintro e w2 ⟨v0, xs, rfl, hown, hx0, hx6, hgood, hs2⟩
  obtain ⟨g, cap, hv0⟩ := own_form hown hx0
  subst hv0
  obtain ⟨m, hm⟩ : ∃ m, m = xs.length := ⟨_, rfl⟩
  rw [← hm] at hown hx0 hx6 ⊢
  have HOWN := Lib.hid hown
  have HGOOD := Lib.hid hgood
  have HS2 := Lib.hid hs2
  have HM := Lib.hid hm
  clear hown hgood hs2 hm
  go_wp2_with fail
  refine (newHist_c w2).mono ?_
  rintro e w3 ⟨rfl, hs3, hh3⟩
  have HS3 := Lib.hid hs3
  have HH3 := Lib.hid hh3
  clear hs3 hh3
  go_wp2
  obtain ⟨Z, A2, C2, hro⟩ := rows_of_few HM.out HOWN.out HGOOD.out
  have HZ := Lib.hid hro
  obtain ⟨H1, hH1⟩ : ∃ H1, H1 = w2.heap.size := ⟨_, rfl⟩
  rw [← hH1] at HH3 ⊢
  have HHE := Lib.hid hH1
  clear hro hH1
  obtain ⟨B0, hB0⟩ : ∃ B0, B0 = w3.heap.size := ⟨_, rfl⟩
  have HB0 := Lib.hid hB0
  clear hB0
  go_loopw [8, 9, 10] (fun s8 s9 s10 wr => ∃ i : Nat, i ≤ m ∧ s10 = .int .i64 i ∧ Hid (wr.ownsRow B0 26 67 s8 i (flatH (fun j => hspec (Z j)) i)) ∧ Hid (wr.ownsRow B0 23 1 s9 (cat Z i).length (u64s (cat Z i))) ∧ Hid (His H1 (hspec (cat Z i)) wr) ∧ Hid (Sm (fun k => k = H1 ∨ B0 ≤ k) w3 wr)) (fun s8 s9 s10 _ => m - (intOf s10).toNat)
  case atStart => exact ⟨0, by omega, rfl, Lib.hid (World.ownsRow_nil _ _ _ _), Lib.hid (World.ownsRow_nil _ _ _ _), by rw [cat, hspec_nil]; exact HH3, Lib.hid (Sm.refl _ _)⟩
  case round =>
    obtain ⟨wo, rfl⟩ : ∃ wo : World, wo = wr := ⟨_, rfl⟩
    obtain ⟨i, hi, rfl, hL, hN, hH, hS⟩ := hrel
    obtain ⟨a8, c8, hv8⟩ := own_form0 hL.out
    subst hv8
    obtain ⟨a9, c9, hv9⟩ := own_form0 hN.out
    subst hv9
    have hzB := HB0.out
    have hz1 := HHE.out
    have hz3 := HS3.out.size
    by_cases hlt : i < m
    · have j1 : (i : Int) < (m : Int) := by omega
      have hp1 : wrap64 ((i : Int) + 1) = ((i + 1 : Nat) : Int) := by unfold wrap64; omega
      have HP := Lib.hid hp1
      have hz8 := hS.out.size
      have hgl := HZ.out.gl (by omega)
      have HZB := Lib.hid hzB
      clear hp1 hzB hz1
      go_wp2_with fail
      refine (newHist_c wo).mono ?_
      rintro e w4 ⟨rfl, hs4, hh4⟩
      obtain ⟨H2, hH2⟩ : ∃ H2, H2 = wo.heap.size := ⟨_, rfl⟩
      rw [← hH2] at hh4 ⊢
      have HS4 := Lib.hid hs4
      have HH4 := Lib.hid hh4
      have HE2 := Lib.hid hH2
      clear hs4 hh4 hH2
      go_wp2
      obtain ⟨L, hL9⟩ : ∃ L, L = (Z i).length := ⟨_, rfl⟩
      have hL40 : L ≤ 40 := by rw [hL9]; exact HZ.out.le i hlt
      have HLE := Lib.hid hL9
      clear hL9
      obtain ⟨M9, hM9⟩ : ∃ M9, M9 = (cat Z i).length := ⟨_, rfl⟩
      have hM240 : M9 ≤ i * 40 := by rw [hM9]; exact cat_len Z i (fun r hr => HZ.out.le r (by omega))
      rw [← hM9] at hN ⊢
      have HME := Lib.hid hM9
      clear hM9
      obtain ⟨q0, hq0, hq1, hq2⟩ := info_parts info_u64
      have Hq0 := Lib.hid hq0
      have Hq1 := Lib.hid hq1
      have Hq2 := Lib.hid hq2
      clear hq0 hq1 hq2
      go_loopw [9, 12] (fun s9 s12 wq => ∃ j : Nat, j ≤ L ∧ s12 = .int .i64 j ∧ Hid (wq.ownsRow B0 26 67 (.slice a8 i c8) i (flatH (fun j => hspec (Z j)) i)) ∧ Hid (wq.ownsRow B0 23 1 s9 (M9 + j) (u64s (cat Z i ++ (Z i).take j))) ∧ Hid (His H1 (hspec (cat Z i ++ (Z i).take j)) wq) ∧ Hid (His H2 (hspec ((Z i).take j)) wq) ∧ Hid (Sm (fun k => k = H1 ∨ B0 ≤ k) w3 wq)) (fun s9 s12 _ => L - (intOf s12).toNat)
      case atStart =>
        exact ⟨0, by omega, rfl, Lib.hid (own_keep hL.out HS4.out (fun _ _ h => h)), Lib.hid (by rw [List.take_zero, List.append_nil]; exact own_keep hN.out HS4.out (fun _ _ h => h)), Lib.hid (by rw [List.take_zero, List.append_nil]; exact hH.out.sm HS4.out (fun h => h)), Lib.hid (by rw [List.take_zero, hspec_nil]; exact HH4.out), Lib.hid (hS.out.trans (HS4.out.mono (fun _ h => h.elim)))⟩
      case round =>
        obtain ⟨j, hj, rfl, kL, kN, kH, kG, kS⟩ := hrel
        obtain ⟨a9', c9', hv9⟩ := own_form0 kN.out
        subst hv9
        by_cases hjl : j < L
        · have i1 : (j : Int) < (L : Int) := by omega
          have hp2 : wrap64 ((j : Int) + 1) = ((j + 1 : Nat) : Int) := by unfold wrap64; omega
          have HP2 := Lib.hid hp2
          clear hp2
          have hjZ : j < (Z i).length := by rw [← HLE.out]; exact hjl
          obtain ⟨b, o, hA, -, -⟩ := HZ.out.dat i hlt j hjZ
          obtain ⟨x, hx⟩ : ∃ x, x = (Z i).getD j 0 := ⟨_, rfl⟩
          have hxl : x < 18446744073709551616 := by
            rw [hx]
            refine HZ.out.lt i hlt _ ?_
            simp [List.getD, hjZ]
          have hzz : ∀ y, y < w2.heap.size → ¬ (y = H1 ∨ B0 ≤ y) := fun y hy => by have := HZB.out; have := HHE.out; omega
          have HZZ := Lib.hid hzz
          have HR := Lib.hid (HZ.out.sm HS3.out kS.out hzz)
          have e1 := HR.out.look hlt hjZ hA
          rw [← hx, ← HLE.out] at e1
          obtain ⟨e1, e2⟩ := e1
          have HA1 := Lib.hid hA
          have HX := Lib.hid hx
          have HJZ := Lib.hid hjZ
          have hH2B : B0 ≤ H2 := by have := HE2.out; have := HZB.out; omega
          clear hA hx hjZ hzz
          go_wp2_with fail
          refine (hadd_nil H2 _ x hxl wr kG.out).mono ?_
          rintro e w5 ⟨rfl, hs5, hg5⟩
          have hH1B : H1 < B0 := by have := HH3.out.r.lt; have := HZB.out; omega
          have HS5 := Lib.hid hs5
          have HG5 := Lib.hid hg5
          have t5 : Sm (fun k => k = H1 ∨ B0 ≤ k) w3 w5 := kS.out.trans (hs5.mono (fun k e => .inr (by omega)))
          have HT5 := Lib.hid t5
          have e3 := (HZ.out.sm HS3.out t5 HZZ.out).look hlt HJZ.out HA1.out
          rw [← HX.out, ← HLE.out] at e3
          obtain ⟨e3, e4⟩ := e3
          have kH5 := Lib.hid (kH.out.sm hs5 (by omega))
          have kL5 := Lib.hid (own_keep kL.out hs5 (own_not_his kL.out kG.out (by decide)))
          have kN5 := Lib.hid (own_keep kN.out hs5 (own_not_his kN.out kG.out (by decide)))
          clear hs5 hg5 t5 kH kL kN kG HR kS e1 e2
          go_wp2_with fail
          refine (hadd_nil H1 _ x hxl w5 kH5.out).mono ?_
          rintro e w6 ⟨rfl, hs6, hh6⟩
          have t6 : Sm (fun k => k = H1 ∨ B0 ≤ k) w3 w6 := HT5.out.trans (hs6.mono (fun k e => .inl e))
          have HT6 := Lib.hid t6
          have e5 := (HZ.out.sm HS3.out t6 HZZ.out).look hlt HJZ.out HA1.out
          rw [← HX.out, ← HLE.out] at e5
          obtain ⟨e5, e6⟩ := e5
          have kH6 := Lib.hid hh6
          have kG6 := Lib.hid (HG5.out.sm hs6 (by omega))
          have kL6 := Lib.hid (own_keep kL5.out hs6 (own_not_his kL5.out kH5.out (by decide)))
          have kN6 := Lib.hid (own_keep kN5.out hs6 (own_not_his kN5.out kH5.out (by decide)))
          have kB6 : B0 ≤ w6.heap.size := by have := HZB.out; have := t6.size; omega
          clear hs6 hh6 t6 kH5 kL5 kN5 HG5 HT5 e3 e4
          go_wp2_with (at_builtin; refine wpList_append_own _ rfl (.tmp 68) (.tmp 76) 38 rfl B0 23 q0 (.int .u64 0) 1 8 Try.underlying38 Hq0.out Hq1.out Hq2.out.1 Hq2.out.2 rfl (by decide) _ (M9 + j) (u64s (cat Z i ++ (Z i).take j)) rfl (kN6.out.alloc _) ⟨w6.heap.size, 0, none⟩ 1 1 [.int .u64 (x : Int)] rfl rfl (new_cells w6 [.int .u64 (x : Int)] 23) (by simp [Value.oneCell']) (by unfold maxLen; omega) (by omega) (by simp; omega) ?_; intro v' w7 hown7 hgr7 _)
          have n1 := Lib.hid ((kL6.out.alloc _).kept hgr7 (own_ne (kL6.out.alloc (.cells #[.int .u64 (x : Int)] 23 (0, 0))) (kN6.out.alloc (.cells #[.int .u64 (x : Int)] 23 (0, 0))) (by decide)))
          have n2 : Hid (w7.ownsRow B0 23 1 v' (M9 + (j + 1)) (u64s (cat Z i ++ (Z i).take (j + 1)))) := Lib.hid (by
            rw [take_snoc' _ _ HJZ.out, ← HX.out, ← List.append_assoc, u64s_snoc, ← Nat.add_assoc]
            exact hown7)
          have n3 : Hid (His H1 (hspec (cat Z i ++ (Z i).take (j + 1))) w7) := Lib.hid (by
            rw [take_snoc' _ _ HJZ.out, ← HX.out, ← List.append_assoc, ← come_spec _ _ hxl]
            exact ⟨(kH6.out.r.alloc _).grown hgr7 (own_ne_row kN6.out kH6.out.r (by decide)), kH6.out.len⟩)
          have n4 : Hid (His H2 (hspec ((Z i).take (j + 1))) w7) := Lib.hid (by
            rw [take_snoc' _ _ HJZ.out, ← HX.out, ← come_spec _ _ hxl]
            exact ⟨(kG6.out.r.alloc _).grown hgr7 (own_ne_row kN6.out kG6.out.r (by decide)), kG6.out.len⟩)
          have n5 : Hid (Sm (fun k => k = H1 ∨ B0 ≤ k) w3 w7) := Lib.hid ((HT6.out.alloc _).trans (sm_grown hgr7 (fun k hk => .inr (kN6.out.lt k hk).1)))
          clear hown7 hgr7 kL6 kN6 kH6 kG6 HT6 e5 e6
          go_wp2
          go_roundw
          case rel => exact ⟨j + 1, by omega, by first | rw [HP2.out] | go_num, n1, n2, n3, n4, n5⟩
          case measure => (try rw [HP2.out]); simp only [intOf]; omega
        · have hjj : j = L := by omega
          subst hjj
          have hzz : ∀ y, y < w2.heap.size → ¬ (y = H1 ∨ B0 ≤ y) := fun y hy => by have := HZB.out; have := HHE.out; omega
          have e1 := (HZ.out.sm HS3.out kS.out hzz).hd i hlt
          rw [← HLE.out] at e1
          clear hzz
          have i1 : ¬ (j : Int) < (j : Int) := by omega
          have eT : (Z i).take j = Z i := by rw [HLE.out, List.take_length]
          rw [eT] at kN kH kG
          clear eT
          go_wp2_with fail
          refine (hget_c H2 (hspec (Z i)) wr kG.out).mono ?_
          rintro e w5 ⟨rfl, hs5⟩
          have T5 : Hid (Sm (fun k => k = H1 ∨ B0 ≤ k) w3 w5) := Lib.hid (kS.out.trans (hs5.mono (fun _ h => h.elim)))
          have kL5 := Lib.hid (own_keep kL.out hs5 (fun _ _ h => h))
          have kN5 := Lib.hid (own_keep kN.out hs5 (fun _ _ h => h))
          have kH5 := Lib.hid (kH.out.sm hs5 (fun h => h))
          have kB5 : B0 ≤ w5.heap.size := by have := HZB.out; have := T5.out.size; omega
          obtain ⟨u, hu⟩ : ∃ u, u = hspec (Z i) := ⟨_, rfl⟩
          have hul : u.length = 67 := by rw [hu, hspec_len]
          rw [← hu]
          have HU := Lib.hid hu
          obtain ⟨y0, hy0, hy1, hy2⟩ := info_parts info_hist
          have Hy0 := Lib.hid hy0
          have Hy1 := Lib.hid hy1
          have Hy2 := Lib.hid hy2
          have D4 : Hid ((uw u).toList.length = 1 * 67) := Lib.hid (by simp [uw_size, hul])
          have D5 := Lib.hid (new_cells (w5.alloc (.cells (uw u) 26)) (uw u).toList 26)
          rw [Array.toArray_toList, World.size_alloc] at D5
          have D6 : Hid (∀ v ∈ (uw u).toList, v.oneCell' = true) := Lib.hid (fun v hv => (Array.all_eq_true_iff_forall_mem.1 (uw_one u)) v (by simpa using hv))
          clear hy0 hy1 hy2 hu hs5 kL kN kH kG kS e1
          go_wp2_with (first
            | refine wpList_store_new67 rfl (.tmp 13) (.tmp 81) rfl (by simp [Act.eval, Act.put]) u (by simp [Act.eval, Act.put]) hul ?_
            | refine wpList_load_u67 rfl (.tmp 13) rfl w5.heap.size _ (by simp [Act.eval]) u hul (Row.new w5 (uw u) 26) ?_
            | refine wpList_bs1 rfl (.tmp 86) rfl u hul (by simp [Act.eval, Act.put]) ?_
            | (at_builtin; refine wpList_append_own _ rfl (.tmp 85) (.tmp 87) 22 rfl B0 26 y0 (.agg (uw hzero)) 67 536 Try.underlying22 Hy0.out Hy1.out Hy2.out.1 Hy2.out.2 (by simp [Value.cells, uw_size, hzero]) (by decide) _ i (flatH (fun j => hspec (Z j)) i) rfl ((kL5.out.alloc _).alloc _) ⟨w5.heap.size + 1, 0, none⟩ 1 1 (uw u).toList (by simp [Act.eval, Act.put]) D4.out D5.out D6.out (by unfold maxLen; omega) (by omega) (by simp; omega) ?_; intro v' w6 hown6 hgr6 _))
          have hgr : ((w5.alloc (.cells (uw u) 26)).alloc (.cells (uw u) 26)).grownBy w6 (Value.slice a8 i c8).ownBlock := hgr6
          have eC : (cat Z (i + 1)).length = M9 + j := by rw [cat, List.length_append, ← HME.out, ← HLE.out]
          have n1 : Hid (w6.ownsRow B0 26 67 v' (i + 1) (flatH (fun j => hspec (Z j)) (i + 1))) := Lib.hid (by
            rw [flatH_succ, ← HU.out]
            exact hown6)
          have n2 : Hid (w6.ownsRow B0 23 1 (.slice a9' (M9 + j) c9') (cat Z (i + 1)).length (u64s (cat Z (i + 1)))) := Lib.hid (by
            rw [eC, cat]
            exact ((kN5.out.alloc _).alloc _).kept hgr (own_ne kN5.out kL5.out (by decide)))
          have n3 : Hid (His H1 (hspec (cat Z (i + 1))) w6) := Lib.hid (by
            rw [cat]
            exact ⟨((kH5.out.r.alloc _).alloc _).grown hgr (own_ne_row kL5.out kH5.out.r (by decide)), kH5.out.len⟩)
          have n4 : Hid (Sm (fun k => k = H1 ∨ B0 ≤ k) w3 w6) := Lib.hid (((T5.out.alloc _).alloc _).trans (sm_grown hgr (fun k hk => .inr (kL5.out.lt k hk).1)))
          clear hown6 hgr6 hgr eC kL5 kN5 kH5 T5 D5
          go_roundw
          case rel => exact ⟨i + 1, by omega, by first | rw [HP.out] | go_num, n1, n2, n3, n4⟩
          case measure => (try rw [HP.out]); simp only [intOf]; omega
    · have hii : i = m := by omega
      have HZB := Lib.hid hzB
      clear hzB hz1
      subst hii
      have j1 : ¬ (i : Int) < (i : Int) := by omega
      have hz8 := hS.out.size
      have hH1B : H1 < B0 := by have := HH3.out.r.lt; have := HZB.out; omega
      obtain ⟨g8, c8', hv8⟩ := own_form hL.out hx0
      simp only [Value.slice.injEq] at hv8
      obtain ⟨rfl, -, rfl⟩ := hv8
      have hzl : ∀ x ∈ cat Z i, x < 18446744073709551616 := cat_lt Z i (fun r hr => HZ.out.lt r hr)
      have HZL := Lib.hid hzl
      clear hzl
      obtain ⟨u, hu⟩ : ∃ u, u = hspec (cat Z i) := ⟨_, rfl⟩
      have hul : u.length = 67 := by rw [hu, hspec_len]
      have hum : ∀ x ∈ u, x < 18446744073709551616 := by rw [hu]; exact hspec_lt _ HZL.out
      have HUM := Lib.hid hum
      rw [← hu] at hH
      have HU := Lib.hid hu
      clear hu hum
      go_wp2_with fail
      refine (hget_c H1 u wo hH.out).mono ?_
      rintro e w4 ⟨rfl, hs4⟩
      have HL4 := Lib.hid (own_keep hL.out hs4 (fun _ _ h => h))
      have HN4 := Lib.hid (own_keep hN.out hs4 (fun _ _ h => h))
      have HS4 := Lib.hid (hS.out.trans (hs4.mono (fun _ h => h.elim)))
      clear hs4 hL hN hS hH
      have hHL := Lib.hid (hisL_of_own (HL4.out.alloc (.cells (uw u) 26)) (fun j _ => hspec_len _) (fun j hj => hspec_lt _ (HZ.out.lt j hj)))
      go_wp2_with (refine wpList_store_new67 rfl (.tmp 15) (.tmp 92) rfl (by simp [Act.eval, Act.put]) u (by simp [Act.eval, Act.put]) hul ?_)
      refine (tjoin_c (some ⟨g8, 0, none⟩) g8 0 i c8 (fun j => hspec (Z j)) (fun _ => rfl) (by omega) (w4.alloc (.cells (uw u) 26)) hHL.out).mono ?_
      rintro e w5 ⟨rfl, hs5⟩
      rw [joinN_cat, ← HU.out]
      obtain ⟨D1, hD1⟩ : ∃ D1, D1 = w4.heap.size := ⟨_, rfl⟩
      have hg8D : g8 < D1 := by rw [hD1]; exact (HL4.out.lt g8 rfl).2
      have hD1B : B0 ≤ D1 := by have := HS4.out.size; have := HZB.out; omega
      have hr5 : Row w5 D1 (uw u) 26 := by rw [hD1]; exact (Row.new w4 (uw u) 26).sm hs5 (fun h => h)
      have h1 := hr5.lt
      obtain ⟨D2, hD2⟩ : ∃ D2, D2 = w5.heap.size := ⟨_, rfl⟩
      have hD12 : D1 < D2 := by omega
      have hr6 := Lib.hid (((hr5.alloc (.cells (uw u) 26 (0, 0))).alloc (.cells (uw hzero) 26 (0, 0))))
      have hr7 : Hid (Row ((w5.alloc (.cells (uw u) 26 (0, 0))).alloc (.cells (uw hzero) 26 (0, 0))) D2 (uw u) 26) := Lib.hid (by rw [hD2]; exact (Row.new w5 (uw u) 26).alloc _)
      have hr8 : Hid (Row ((w5.alloc (.cells (uw u) 26 (0, 0))).alloc (.cells (uw hzero) 26 (0, 0))) (D2 + 1) (uw hzero) 26) := Lib.hid (by
        have := Row.new (w5.alloc (.cells (uw u) 26 (0, 0))) (uw hzero) 26
        rw [World.size_alloc, ← hD2] at this
        exact this)
      have hS6 := Lib.hid ((((HS4.out.alloc (.cells (uw u) 26 (0, 0))).trans (hs5.mono (fun _ h => h.elim))).alloc (.cells (uw u) 26 (0, 0))).alloc (.cells (uw hzero) 26 (0, 0)))
      rw [← hD1]
      have hE1 := Lib.hid hD1
      have hE2 := Lib.hid hD2
      clear hr5 hD1 h1
      have hHL6 := Lib.hid ((hHL.out.sm hs5 (fun h => h)).sm (((Sm.refl (fun _ => False) w5).alloc (.cells (uw u) 26 (0, 0))).alloc (.cells (uw hzero) 26 (0, 0))) (fun h => h))
      have hN6 := Lib.hid (((own_keep (HN4.out.alloc (.cells (uw u) 26)) hs5 (fun _ _ h => h)).alloc (.cells (uw u) 26 (0, 0))).alloc (.cells (uw hzero) 26 (0, 0)))
      clear hs5 HL4 HN4 HS4 hHL
      have hi1 : (1 : Int) ≤ (i : Int) := by omega
      have hi6 : (i : Int) ≤ 6 := by omega
      go_wp2_with (refine wpList_store_new67 rfl (.tmp 17) (.tmp 95) rfl (by simp [Act.eval, Act.put]) u (by simp [Act.eval, Act.put]) hul ?_)
      rw [zero_ah]
      rw [← hD2]
      clear hD2
      have hii2 : (i : Int) - 1 - ((0 : Nat) : Int) = (i : Int) - 1 := by omega
      go_loopw [19] (fun s19 wr => ∃ k : Nat, k ≤ i ∧ s19 = .int .i64 ((i : Int) - 1 - (k : Int)) ∧ Hid (Row wr D1 (uw u) 26) ∧ Hid (Row wr D2 (uw u) 26) ∧ Hid (Row wr (D2 + 1) (uw (hspec (catB Z i k))) 26) ∧ Hid (HisL g8 0 i (fun j => hspec (Z j)) wr) ∧ Hid (wr.ownsRow B0 23 1 (.slice a9 (cat Z i).length c9) (cat Z i).length (u64s (cat Z i))) ∧ Hid (Sm (fun k => k = H1 ∨ B0 ≤ k) w3 wr)) (fun s19 _ => (intOf s19 + 1).toNat)
      case atStart => exact ⟨0, by omega, by rw [hii2], hr6, hr7, Lib.hid (by rw [catB, hspec_nil]; exact hr8.out), hHL6, hN6, hS6⟩
      case round =>
        clear hr6 hr7 hr8 hHL6 hN6 hS6 hii2
        obtain ⟨k, hk, rfl, kr1, kr2, kr3, kHL, kN, kS⟩ := hrel
        by_cases hlt : k < i
        · have i1 : (0 : Int) ≤ (i : Int) - 1 - (k : Int) := by omega
          have i2 : (i : Int) - 1 - (k : Int) ≤ 6 := by omega
          obtain ⟨q, hq⟩ : ∃ q : Nat, q = i - 1 - k := ⟨_, rfl⟩
          have hqi : (i : Int) - 1 - (k : Int) = (q : Int) := by omega
          have hql : q < i := by omega
          have i3 : (q : Int) < (i : Int) := by omega
          have hpq : wrap64 ((q : Int) - 1) = (i : Int) - 1 - ((k + 1 : Nat) : Int) := by unfold wrap64; omega
          have HPQ := Lib.hid hpq
          have HQ := Lib.hid hq
          rw [hqi]
          have i4 : (0 : Int) ≤ (q : Int) := by omega
          clear hpq hq i1 i2 hqi
          go_wp2
          obtain ⟨X, hX⟩ : ∃ X, X = hspec (catB Z i k) := ⟨_, rfl⟩
          obtain ⟨Y, hY⟩ : ∃ Y, Y = hspec (Z q) := ⟨_, rfl⟩
          have hXl : X.length = 67 := by rw [hX, hspec_len]
          have hYl : Y.length = 67 := by rw [hY, hspec_len]
          have hXm : ∀ x ∈ X, x < 18446744073709551616 := by
            rw [hX]
            refine hspec_lt _ fun x hx => ?_
            exact catB_mem_lt Z i (fun r hr => HZ.out.lt r hr) k hk x hx
          have hYm : ∀ x ∈ Y, x < 18446744073709551616 := by rw [hY]; exact hspec_lt _ (HZ.out.lt q hql)
          have hXY : joinN (fun j => if j = 0 then X else Y) 2 = hspec (catB Z i (k + 1)) := by
            rw [joinN_two, hX, hY, hjoin_zero, hjoin_spec, catB, HQ.out]
          have g1 : wr.drew.rangeAt (D2 + 1) 0 (uw X).toList := by rw [hX]; exact Row.range (kr3.out.drew)
          have g2 : wr.drew.rangeAt g8 (q * 67) (uw Y).toList := by
            rw [hY]
            have := kHL.out.rng q hql
            rw [Nat.zero_add] at this
            exact this
          have HXM := Lib.hid hXm
          have HYM := Lib.hid hYm
          have HXY := Lib.hid hXY
          have G1 := Lib.hid g1
          have G2 := Lib.hid g2
          clear hX hY hXm hYm hXY g1 g2
          refine wp_region_still_tail 5 (by kernel_rfl) (by kernel_rfl) ?_
          simp only [List.take_succ_cons, List.take_zero, List.drop_succ_cons, List.drop_zero]
          refine wpStill_step (fun K hK => ?_)
          rw [if_pos (by rfl)]
          refine still_load_h67 (.tmp 18) rfl (D2 + 1) 0 (by simp [Act.eval]) X hXl G1.out (hK _ ?_)
          clear hK K
          simp only [Act.put, List.setIfInBounds_toArray, List.set_cons_succ, List.set_cons_zero]
          still_step
          still_step
          still_step
          refine wpStill_step (fun K hK => ?_)
          rw [if_pos (by rfl)]
          refine still_load_h67 (.tmp 106) rfl g8 (q * 67) (by simp [Act.eval]) Y hYl G2.out (hK _ ?_)
          clear hK K
          simp only [Act.put, List.setIfInBounds_toArray, List.set_cons_succ, List.set_cons_zero]
          refine wpStill_nil ?_
          change wpList _ _ _ _ _ wr.drew
          have d1 := Lib.hid (kr1.out.drew)
          have d2 := Lib.hid (kr2.out.drew)
          have d3 := Lib.hid (kr3.out.drew)
          have d4 := Lib.hid (kHL.out.sm (Sm.drew (Sm.refl (fun _ => False) wr)) (fun h => h))
          have d5 := Lib.hid (own_keep kN.out (Sm.drew (Sm.refl (fun _ => False) wr)) (fun _ _ h => h))
          have d6 := Lib.hid kS.out.drew
          clear kr1 kr2 kr3 kHL kN kS G1 G2
          generalize wr.drew = wd at d1 d2 d3 d4 d5 d6 ⊢
          obtain ⟨S0, hS0⟩ : ∃ S0, S0 = wd.heap.size := ⟨_, rfl⟩
          have hlS : D2 + 1 < S0 := by rw [hS0]; exact d3.out.lt
          have hlg : B0 ≤ S0 := by rw [hS0]; have := d6.out.size; have := HZB.out; omega
          have hb := Row.new wd (uw X ++ uw Y) 26
          rw [← hS0] at hb
          have hB2 := Lib.hid (hisL_two hXl hYl HXM.out HYM.out hb)
          clear hb
          go_wp2_with (refine wpList_bs2 rfl (.tmp 103) (.tmp 107) rfl X Y hXl hYl (by simp [Act.eval, Act.put]) (by simp [Act.eval, Act.put]) ?_)
          rw [← hS0]
          have HS0 := Lib.hid hS0
          clear hS0
          refine (tjoin_c (some ⟨S0, 0, none⟩) S0 0 2 2 (fun j => if j = 0 then X else Y) (fun _ => rfl) (by decide) (wd.alloc (.cells (uw X ++ uw Y) 26)) hB2.out).mono ?_
          rintro e we ⟨rfl, hse⟩
          rw [HXY.out]
          have hk1 : (hspec (catB Z i (k + 1))).length = 67 := hspec_len _
          obtain ⟨J, hJ⟩ : ∃ J, J = hspec (catB Z i (k + 1)) := ⟨_, rfl⟩
          rw [← hJ] at hk1 ⊢
          have e1 := Lib.hid ((d1.out.alloc (.cells (uw X ++ uw Y) 26)).sm hse (fun h => h))
          have e2 := Lib.hid ((d2.out.alloc (.cells (uw X ++ uw Y) 26)).sm hse (fun h => h))
          have e3 := Lib.hid ((d3.out.alloc (.cells (uw X ++ uw Y) 26)).sm hse (fun h => h))
          have e4 := Lib.hid ((d4.out.sm ((Sm.refl (fun _ => False) wd).alloc (.cells (uw X ++ uw Y) 26)) (fun h => h)).sm hse (fun h => h))
          have e5 := Lib.hid (own_keep (d5.out.alloc (.cells (uw X ++ uw Y) 26)) hse (fun _ _ h => h))
          have e6 := Lib.hid ((d6.out.alloc (.cells (uw X ++ uw Y) 26)).trans (hse.mono (fun _ h => h.elim)))
          clear d1 d2 d3 d4 d5 d6 hse hB2
          have HJ := Lib.hid hJ
          clear hJ
          go_wp2_with (refine wpList_store_u67 rfl (.tmp 18) (.tmp 109) rfl (D2 + 1) 26 (by simp [Act.eval, Act.put]) (hspec (catB Z i k)) J (by simp [Act.eval, Act.put]) (hspec_len _) hk1 e3.out ?_)
          have f1 : Hid (Row (we.setRow (D2 + 1) (uw J)) D1 (uw u) 26) := Lib.hid (e1.out.of_heap (setRow_other _ _ _ _ (by omega)))
          have f2 : Hid (Row (we.setRow (D2 + 1) (uw J)) D2 (uw u) 26) := Lib.hid (e2.out.of_heap (setRow_other _ _ _ _ (by omega)))
          have f3 : Hid (Row (we.setRow (D2 + 1) (uw J)) (D2 + 1) (uw (hspec (catB Z i (k + 1)))) 26) := Lib.hid (by rw [← HJ.out]; exact e3.out.setRow)
          have fs : Sm (fun b => b = D2 + 1) we (we.setRow (D2 + 1) (uw J)) := Sm.setRowX (F := fun b => b = D2 + 1) (Sm.refl _ we) rfl (uw J)
          have f4 := Lib.hid (e4.out.sm fs (by omega))
          have f5 := Lib.hid (own_keep e5.out fs (fun b hb => fun e => own_ne_row e5.out e3.out (by decide) (e ▸ hb)))
          have f6 := Lib.hid (e6.out.trans (fs.mono (fun b (hb : b = D2 + 1) => .inr (by omega))))
          clear e1 e2 e3 e4 e5 e6 fs
          go_roundw
          case rel => exact ⟨k + 1, by omega, by first | rw [HPQ.out] | rw [show (q : Int) - 1 = (i : Int) - 1 - ((k + 1 : Nat) : Int) by have := HQ.out; omega], f1, f2, f3, f4, f5, f6⟩
          case measure => (try rw [HPQ.out]); simp only [intOf]; omega
        · have hkk : k = i := by omega
          subst hkk
          have i1 : ¬ (0 : Int) ≤ (k : Int) - 1 - (k : Int) := by omega
          rw [catB_all, ← HU.out] at kr3
          have e19 : (k : Int) - 1 - (k : Int) = -1 := by omega
          rw [e19]
          clear i1 e19
          have hec : ∀ w, (Op.equalIn 9999 24 (.agg ((uw u).extract 0 65)) (.agg ((uw u).extract 0 65))).run Try.prog w = .ok true w := fun w => by
            rw [eq_counts u u hul hul HUM.out HUM.out w]; simp
          have b5 := uw_isD u 65 (by omega)
          have b6 := uw_isD u 66 (by omega)
          go_wp2_with (first
            | refine wpList_load_g67 (by rfl) (.tmp 17) rfl D2 (by simp [Act.eval, Act.put]) u hul kr2.out ?_
            | refine wpList_load_g67 (by rfl) (.tmp 18) rfl (D2 + 1) (by simp [Act.eval, Act.put]) u hul kr3.out ?_
            | refine wpList_load_g67 (by rfl) (.tmp 15) rfl D1 (by simp [Act.eval, Act.put]) u hul kr1.out ?_)
          clear hec b5 b6
          obtain ⟨O1, hO1⟩ : ∃ O1, O1 = 1 + ofN % 1048576 := ⟨_, rfl⟩
          have eO : (1 : Int) + (ofN : Int) % 1048576 = (O1 : Int) := by omega
          rw [eO]
          have eP : (part : Int) % ((O1 : Int) + 1) = ((part % (O1 + 1) : Nat) : Int) := by rw [Int.natCast_emod, Int.natCast_add]; rfl
          rw [eP]
          clear eO eP
          obtain ⟨P1, hP1⟩ : ∃ P1, P1 = part % (O1 + 1) := ⟨_, rfl⟩
          have hOa : 0 < O1 := by omega
          have hOb : O1 ≤ 1048576 := by omega
          have hPO : P1 ≤ O1 := by
            have := Nat.mod_lt part (show 0 < O1 + 1 by omega)
            omega
          rw [← hP1]
          clear hO1 hP1
          refine (tbelow_c u hul HUM.out P1 O1 wr).mono ?_
          rintro e w6 ⟨v, rv, hv, rfl, hs6⟩
          have kr6 := Lib.hid (kr1.out.sm hs6 (fun h => h))
          have kN6 := Lib.hid (own_keep kN.out hs6 (fun _ _ h => h))
          have kS6 := Lib.hid (kS.out.trans (hs6.mono (fun _ h => h.elim)))
          have HV := Lib.hid hv
          clear hs6 kr1 kr2 kr3 kHL kN kS hv
          go_wp2_with (refine wpList_load_u67 rfl (.tmp 15) rfl D1 _ (by simp [Act.eval, Act.put]) u hul kr6.out ?_)
          refine (tbelow_c u hul HUM.out O1 O1 w6).mono ?_
          rintro e w7 ⟨vw, rw', hw', rfl, hs7⟩
          have kN7 := Lib.hid (own_keep kN6.out hs7 (fun _ _ h => h))
          have kS7 := Lib.hid (kS6.out.trans (hs7.mono (fun _ h => h.elim)))
          have hcl : (cat Z k).length ≤ k * 40 := cat_len Z k (fun r hr => HZ.out.le r hr)
          obtain ⟨rfl, rfl, hvw, hJ1, hJ2⟩ := joins_law (cat Z k) (by omega) HZL.out P1 O1 hOa hOb hPO v rv vw rw' (by rw [← HU.out]; exact HV.out) (by rw [← HU.out]; exact hw')
          have hvl := HV.out.lt64
          have HJ1 := Lib.hid hJ1
          have HJ2 := Lib.hid hJ2
          clear hs7 kr6 kN6 kS6 hw' hJ1 hJ2
          have i1 : ¬ (vw : Int) < (v : Int) := by omega
          obtain ⟨l, hl⟩ : ∃ l, l = cat Z k := ⟨_, rfl⟩
          rw [← hl] at kN7 HJ1 HJ2 hcl HZL ⊢
          obtain ⟨M, hM⟩ : ∃ M, M = l.length := ⟨_, rfl⟩
          rw [← hM] at kN7 HJ1 HJ2 hcl ⊢
          have hME := Lib.hid hM
          clear hl hM
          go_wp2_with fail
          go_loop [24, 25, 26] (fun s24 s25 s26 => ∃ y : Nat, y ≤ M ∧ s26 = .int .i64 y ∧ s24 = .int .u64 ((cntP v l y : Nat) : Int) ∧ s25 = .int .u64 ((cntP (v / 2) l y : Nat) : Int)) (fun _ _ s26 => M - (intOf s26).toNat)
          case atStart => exact ⟨0, by omega, rfl, rfl, rfl⟩
          case round =>
            obtain ⟨y, hy, rfl, rfl, rfl⟩ := hrel
            by_cases hlt : y < M
            · have i1 : (y : Int) < (M : Int) := by omega
              have hp3 : wrap64 ((y : Int) + 1) = ((y + 1 : Nat) : Int) := by unfold wrap64; omega
              have HP3 := Lib.hid hp3
              clear hp3
              obtain ⟨g9, c9', hv9⟩ := own_form kN7.out (by omega)
              simp only [Value.slice.injEq] at hv9
              obtain ⟨rfl, -, rfl⟩ := hv9
              obtain ⟨x, hx⟩ : ∃ x, x = l.getD y 0 := ⟨_, rfl⟩
              have hyl : y < l.length := by rw [← hME.out]; exact hlt
              have hcell : w7.cell? ⟨g9, y, none⟩ = some (.int .u64 (x : Int)) := by
                have := kN7.out.cells (g := g9) rfl y _ (u64s_get l y hyl)
                rw [add_plain', Nat.zero_add] at this
                rw [hx]; exact this
              have c1 := cntP_succ v l y hyl
              have c2 := cntP_succ (v / 2) l y hyl
              have c3 := cntP_le v l y
              have c4 := cntP_le (v / 2) l y
              rw [← hx] at c1 c2
              have HX := Lib.hid hx
              clear hx hyl
              obtain ⟨n1, hn1⟩ : ∃ n1, n1 = cntP v l y := ⟨_, rfl⟩
              obtain ⟨n2, hn2⟩ : ∃ n2, n2 = cntP (v / 2) l y := ⟨_, rfl⟩
              rw [← hn1] at c1 c3 ⊢
              rw [← hn2] at c2 c4 ⊢
              have C1 := Lib.hid c1
              have C2 := Lib.hid c2
              have N1 := Lib.hid hn1
              have N2 := Lib.hid hn2
              clear c1 c2 hn1 hn2
              by_cases h1 : x ≤ v
              · have k1 : (x : Int) ≤ (v : Int) := by omega
                by_cases h2 : x ≤ v / 2
                · have k2 : (x : Int) ≤ (v : Int) / 2 := by omega
                  go_wp2
                  go_round
                  case rel => exact ⟨y + 1, by omega, by first | rw [HP3.out] | go_num, by rw [C1.out, if_pos h1]; go_num, by rw [C2.out, if_pos h2]; go_num⟩
                  case measure => (try rw [HP3.out]); simp only [intOf]; omega
                · have k2 : ¬ (x : Int) ≤ (v : Int) / 2 := by omega
                  go_wp2
                  go_round
                  case rel => exact ⟨y + 1, by omega, by first | rw [HP3.out] | go_num, by rw [C1.out, if_pos h1]; go_num, by rw [C2.out, if_neg h2]; go_num⟩
                  case measure => (try rw [HP3.out]); simp only [intOf]; omega
              · have h2 : ¬ x ≤ v / 2 := by omega
                have k1 : ¬ (x : Int) ≤ (v : Int) := by omega
                have k2 : ¬ (x : Int) ≤ (v : Int) / 2 := by omega
                go_wp2
                go_round
                case rel => exact ⟨y + 1, by omega, by first | rw [HP3.out] | go_num, by rw [C1.out, if_neg h1]; go_num, by rw [C2.out, if_neg h2]; go_num⟩
                case measure => (try rw [HP3.out]); simp only [intOf]; omega
            · have hyy : y = M := by omega
              subst hyy
              have j1 : ¬ (y : Int) < (y : Int) := by omega
              rw [cntP_all v l y hME.out, cntP_all (v / 2) l y hME.out]
              obtain ⟨n1, hn1⟩ : ∃ n1, n1 = l.countP (fun x => decide (x ≤ v)) := ⟨_, rfl⟩
              obtain ⟨n2, hn2⟩ : ∃ n2, n2 = l.countP (fun x => decide (x ≤ v / 2)) := ⟨_, rfl⟩
              rw [← hn1] at HJ1 ⊢
              rw [← hn2] at HJ2 ⊢
              have c3 : n1 ≤ y := by rw [hn1, hME.out]; exact List.countP_le_length
              have c4 : n2 ≤ y := by rw [hn2, hME.out]; exact List.countP_le_length
              clear hn1 hn2
              have b1 : n1 * O1 ≤ 240 * 1048576 := Nat.mul_le_mul (by omega) hOb
              have b2 : n2 * O1 ≤ 240 * 1048576 := Nat.mul_le_mul (by omega) hOb
              have b3 : y * P1 ≤ 240 * 1048576 := Nat.mul_le_mul (by omega) (by omega)
              have hJ1 := HJ1.out
              have hJ2 := HJ2.out
              obtain ⟨a1, ha1⟩ : ∃ a1, a1 = n1 * O1 := ⟨_, rfl⟩
              obtain ⟨a2, ha2⟩ : ∃ a2, a2 = n2 * O1 := ⟨_, rfl⟩
              obtain ⟨a3, ha3⟩ : ∃ a3, a3 = y * P1 := ⟨_, rfl⟩
              rw [← ha1] at b1 hJ1
              rw [← ha2] at b2 hJ2
              rw [← ha3] at b3 hJ1 hJ2
              have e1 : IntKind.u64.wrap ((n1 : Int) * (O1 : Int)) = (a1 : Int) := by rw [ha1, ← Int.natCast_mul, IntKind.wrap_u64]; omega
              have e2 : IntKind.u64.wrap ((n2 : Int) * (O1 : Int)) = (a2 : Int) := by rw [ha2, ← Int.natCast_mul, IntKind.wrap_u64]; omega
              have e3 : IntKind.u64.wrap ((y : Int) * (P1 : Int)) = (a3 : Int) := by rw [ha3, ← Int.natCast_mul, IntKind.wrap_u64]; omega
              have i1 : (a3 : Int) ≤ (a1 : Int) := by omega
              clear ha1 ha2 ha3
              by_cases hv0 : v = 0
              · have i2 : ((v : Int) == 0) = true := by simp [hv0]
                clear hJ1 hJ2
                go_wp2
                go_ret
                exact ⟨rfl, joins_end HS1.out HS2.out HS3.out kS7.out HHE.out (by have := HZB.out; omega)⟩
              · have i2 : ((v : Int) == 0) = false := by rw [beq_eq_false_iff_ne]; omega
                have i3 : (a2 : Int) < (a3 : Int) := by rcases hJ2 with h | h <;> omega
                clear hJ1 hJ2
                go_wp2
                go_ret
                exact ⟨rfl, joins_end HS1.out HS2.out HS3.out kS7.out HHE.out (by have := HZB.out; omega)⟩
end Go.Proofs.Ytdedmmjmiakidaa
