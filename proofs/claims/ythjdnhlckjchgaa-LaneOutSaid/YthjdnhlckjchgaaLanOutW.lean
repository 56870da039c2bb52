/- LaneOut, walked alone. -/
import Derived.Test.YthjdnhlckjchgaaLanR
namespace Go.Proofs.Ythjdnhlckjchgaa
open Go.RowKit
set_option linter.unusedVariables false
set_option linter.unusedSimpArgs false

theorem stamp_k (T A n i : Nat) (ln : Nat → Nat) (k : KeyV) (hk : k.Ok) (w : World) (h : Lns T A (mL ln n i) w) (hln : laneOf k n = ln i) (hlt : ln i < n) (hi : i < 1000) :
    Calls Try.prog 20 #[.pointer (some ⟨T, 0, none⟩), .nilIface, .agg (keyC k).toArray] w fun e w' =>
      e = .returned (.tuple #[.agg #[.int .i64 (ln i : Int), .int .u64 (sq ln i : Int)], .int .i64 0]) ∧ Sm (fun b => b = A) w w' ∧ Lns T A (mL ln n (i + 1)) w' := by
  have h1 := stamp_nil T A (mL ln n i) k hk w h (fun x hx => by have := mL_lt ln n i x hx; omega)
  rw [mL_len, hln, mL_get ln n i _ hlt, mL_succ] at h1
  exact h1

theorem Recs.takeN {sz : Nat} {a : Option Addr} {n c : Nat} {rows : List (List Value)} {w : World} (h : Recs sz (.slice a n c) rows w) (q m : Nat) (hm : m = (rows.take q).length) : Recs sz (.slice a m c) (rows.take q) w := by
  subst hm
  obtain ⟨a', c', e, hc, hr⟩ := h
  simp at e
  obtain ⟨rfl, rfl, rfl⟩ := e
  refine ⟨a, c, rfl, by simp; omega, fun h0 => ?_⟩
  obtain ⟨b, o, ha, hb, hr⟩ := hr (by simp at h0; omega)
  refine ⟨b, o, ha, hb, fun j hj => ?_⟩
  have := hr j (by simp at hj; omega)
  simpa using this

set_option maxRecDepth 100000 in
set_option maxHeartbeats 6400000 in
theorem out_walk (lanes : Int) (ks : List KeyV) (hks : ∀ k ∈ ks, k.Ok) (ka : Option Addr) (l kc : Nat) (hl : l = ks.length) (hkl : l ≤ 9223372036854775807) (sh : List Int) (sa : Option Addr) (m sc : Nat) (hm : m = sh.length) (hml : m ≤ 9223372036854775807)
    (w : World) (hK : Recs 37 (.slice ka l kc) (ks.map keyC) w) (hN : Ints (.slice sa m sc) sh w) :
    Calls Try.prog 5 #[.int .i64 lanes, .slice ka l kc, .slice sa m sc] w fun e w' => e = .returned (.bool true) ∧ Sm (fun _ => False) w w' := by
  obtain ⟨i0, hi, hz0, hz1, hz2⟩ := info_parts info_done
  have Hi := Lib.hid hi
  have Hz := Lib.hid (show i0.zero = some (.agg (doneS 0 0).toArray) ∧ i0.size = 12 ∧ i0.bytes = 88 from ⟨hz0, hz1, hz2⟩)
  clear hi hz0 hz1 hz2
  obtain ⟨i1, hi, hz0, hz1, hz2⟩ := info_parts info_stamp
  have Hi1 := Lib.hid hi
  have Hz1 := Lib.hid (show i1.zero = some (.agg #[.int .i64 0, .int .u64 0]) ∧ i1.size = 2 ∧ i1.bytes = 16 from ⟨hz0, hz1, hz2⟩)
  clear hi hz0 hz1 hz2
  obtain ⟨i2, hi, hz0, hz1, hz2⟩ := info_parts info_int
  have Hi2 := Lib.hid hi
  have Hz2 := Lib.hid (show i2.zero = some (.int .i64 0) ∧ i2.size = 1 ∧ i2.bytes = 8 from ⟨hz0, hz1, hz2⟩)
  clear hi hz0 hz1 hz2
  obtain ⟨KS, hKS⟩ : ∃ KS, KS = ks.take 60 := ⟨_, rfl⟩
  obtain ⟨L, hL⟩ : ∃ L, L = KS.length := ⟨_, rfl⟩
  have hL2 : ((l : Int) ≤ 60 ∧ L = l) ∨ (60 < (l : Int) ∧ (L : Int) = 60) := by
    rw [hL, hKS, List.length_take, ← hl]
    omega
  have hcap : l ≤ kc := by
    obtain ⟨a', c', e, hc, -⟩ := hK
    simp only [Value.slice.injEq] at e
    rw [e.2.2, e.2.1]
    exact hc
  have hLc : (L : Int) ≤ (kc : Int) := by omega
  have hL60 : L ≤ 60 := by omega
  have HK := Lib.hid (show Recs 37 (.slice ka L kc) (KS.map keyC) w by
    have := hK.takeN 60 L (by rw [hL, hKS]; simp)
    rwa [← List.map_take, ← hKS] at this)
  have HKS := Lib.hid (show ∀ q ∈ KS, q.Ok from fun q hq => hks q (List.mem_of_mem_take (by rw [← hKS]; exact hq)))
  have HCUT := Lib.hid hL2
  have HL := Lib.hid hL
  have HM := Lib.hid hm
  have HN := Lib.hid hN
  obtain ⟨n, hn⟩ : ∃ n, n = 1 + wi lanes 16 := ⟨_, rfl⟩
  have hwi := wi_lt lanes 16 (by omega)
  have hn0 : 0 < n := by omega
  have hn16 : n ≤ 16 := by omega
  have hwn : wrap64 (1 + (wi lanes 16 : Int)) = (n : Int) := by unfold wrap64; omega
  clear hks hl hkl hK hN hm hKS hL hL2 hcap hn hwi
  go_enter Try.func5, Try.ntmps5
  go_wp2_with fail
  refine (works_c w).mono ?_
  rintro e w1 ⟨rfl, hs1⟩
  have HS1 := Lib.hid hs1
  clear hs1
  go_wp2_with fail
  refine (within_c lanes 16 (by omega) (by omega) w1).mono ?_
  rintro e w2 ⟨rfl, rfl⟩
  go_wp2_with (refine wpList_min rfl (.tmp 36) 60 rfl rfl l L (by simp [Act.eval, Act.put]) HCUT.out ?_)
  refine (lnew_ok n hn0 hn16 w1).mono ?_
  rintro e w2 ⟨rfl, hs2, hl2⟩
  have hsz2 : w1.heap.size + 2 ≤ w2.heap.size := by have := hl2.rT.lt; omega
  have HS2 := Lib.hid (HS1.out.trans hs2)
  have HL2 := Lib.hid hl2
  have hsz1 := HS1.out.size
  clear hs2 hl2 HS1 hwn
  go_wp2_with fail
  refine (neworder_ok n L hn0 hn16 (by omega) w2).mono ?_
  rintro e w3 ⟨rfl, hs3, ho3⟩
  obtain ⟨T, hT⟩ : ∃ T, T = w1.heap.size + 1 := ⟨_, rfl⟩
  obtain ⟨A, hA⟩ : ∃ A, A = w1.heap.size := ⟨_, rfl⟩
  obtain ⟨O, hO⟩ : ∃ O, O = w2.heap.size + 2 := ⟨_, rfl⟩
  obtain ⟨N, hN⟩ : ∃ N, N = w2.heap.size := ⟨_, rfl⟩
  obtain ⟨M, hM⟩ : ∃ M, M = w2.heap.size + 1 := ⟨_, rfl⟩
  rw [← hO, ← hM, ← hN] at ho3
  rw [← hT, ← hO]
  have hb : w.heap.size ≤ A ∧ A < T ∧ T < N ∧ N < M ∧ M < O ∧ O < w3.heap.size := by
    have := ho3.rO.lt
    omega
  have HS3 := Lib.hid ((HS2.out.trans hs3).mono (F' := fun b => w.heap.size ≤ b) (fun _ h => h.elim))
  have HLn := Lib.hid (show Lns T A (mL (lnF KS n) n 0) w3 by
    have := HL2.out.sm hs3 (fun h => h) (fun h => h)
    rw [← hT, ← hA] at this
    rw [mL_zero]
    exact this)
  have HO := Lib.hid ho3
  have HB := Lib.hid hb
  clear hs3 ho3 HS2 HL2 hsz2 hsz1 hT hA hO hN hM hb
  obtain ⟨ln, hln⟩ : ∃ ln, ln = lnF KS n := ⟨_, rfl⟩
  rw [← hln] at HLn
  have HLN := Lib.hid hln
  clear hln
  go_upto_block 0 with fail
  go_cut [12, 13] from 14 (fun s12 s13 wx => Hid (wx.ownsRow w3.heap.size 38 2 s12 L (rowsS ln L).flatten) ∧ Hid (wx.ownsRow w3.heap.size 3 1 s13 L (ic (natI (List.range L)))) ∧ Hid (OrdL O N M (List.replicate n 0) L [] wx) ∧ Hid (Sm (fun b => w.heap.size ≤ b) w wx) ∧ w3.heap.size ≤ wx.heap.size)
  case first =>
    as_aux_lemma =>
      go_wp2_with fail
      go_loopw [12, 13, 14] (fun s12 s13 s14 wr => ∃ i : Nat, i ≤ L ∧ s14 = .int .i64 i ∧ Hid (wr.ownsRow w3.heap.size 38 2 s12 i (rowsS ln i).flatten) ∧ Hid (wr.ownsRow w3.heap.size 3 1 s13 i (ic (natI (List.range i)))) ∧ Hid (Lns T A (mL ln n i) wr) ∧ Hid (OrdL O N M (List.replicate n 0) L [] wr) ∧ Hid (Sm (fun b => w.heap.size ≤ b) w wr) ∧ w3.heap.size ≤ wr.heap.size) (fun s12 s13 s14 wr => L - (intOf s14).toNat)
      case atStart => exact ⟨0, by omega, rfl, Lib.hid (World.ownsRow_nil _ _ _ _), Lib.hid (World.ownsRow_nil _ _ _ _), HLn, HO, HS3, Nat.le_refl _⟩
      case round =>
        obtain ⟨i, hi, rfl, hst, hlf, hLn, hO, hS, hsz⟩ := hrel
        by_cases hlt : i < L
        · have j1 : (i : Int) < (L : Int) := by omega
          have hp : wrap64 ((i : Int) + 1) = ((i + 1 : Nat) : Int) := by unfold wrap64; omega
          have HP := Lib.hid hp
          have hik : i < KS.length := by rw [← HL.out]; exact hlt
          obtain ⟨q1, q2, q3, -, q4⟩ := HK.out.sm hS.out (fun b hb e => by omega)
          obtain ⟨kb, ko, rfl, -, q5⟩ := q4 (by rw [List.length_map]; omega)
          simp only [Value.slice.injEq] at q3
          obtain ⟨rfl, -, rfl⟩ := q3
          have hr := q5 i (by rw [List.length_map]; exact hik)
          rw [List.getElem_map] at hr
          have hkok := HKS.out _ (List.getElem_mem hik)
          have hlnk := lnF_get KS n i hik
          rw [← HLN.out] at hlnk
          have hlnl : ln i < n := by rw [HLN.out]; exact lnF_lt KS n hn0 i
          obtain ⟨k, hk⟩ : ∃ k, k = KS[i] := ⟨_, rfl⟩
          rw [← hk] at hr hkok hlnk
          have hlen := keyC_len k hkok
          have HR := Lib.hid hr
          have HLNK := Lib.hid hlnk
          obtain ⟨a12, c12, hv12⟩ := own_form0 hst.out
          subst hv12
          obtain ⟨a13, c13, hv13⟩ := own_form0 hlf.out
          subst hv13
          clear hp hr hlnk hk q4 q5 HLn HO HS3
          go_wp2_with (refine wpList_load_mid rfl 63 (.tmp 67) rfl kb (ko + i * 37) (by simp [Act.eval, Act.put]) (keyC k) _ HR.out Try.underlying63 rfl (by rw [hlen, size_key]) ?_)
          refine (stamp_k T A n i ln k hkok wr hLn.out HLNK.out.symm hlnl (by omega)).mono ?_
          rintro e w4 ⟨rfl, hs4, hl4⟩
          have HST4 := Lib.hid (own_sm hst.out hs4 (fun b hb e => by have := HB.out; omega))
          have HLF4 := Lib.hid (own_sm hlf.out hs4 (fun b hb e => by have := HB.out; omega))
          have HO4 := Lib.hid (hO.out.sm hs4 (by have := HB.out; omega) (by have := HB.out; omega) (by have := HB.out; omega))
          have HS4 := Lib.hid (hS.out.trans (hs4.mono (F' := fun b => w.heap.size ≤ b) (fun b e => by have := HB.out; omega)))
          have hz4 := hs4.size
          have HL4 := Lib.hid hl4
          clear hst hlf hO hS hs4 hl4 hLn
          obtain ⟨we, hwe⟩ : ∃ we, we = (w4.alloc (.cells (stampC ln i).toArray 38)).alloc (.cells (stampC ln i).toArray 38) := ⟨_, rfl⟩
          have hse : Sm (fun _ => False) w4 we := by rw [hwe]; exact ((Sm.refl _ _).alloc _).alloc _
          have hce : ∀ (j : Nat) (u : Value), (stampC ln i)[j]? = some u → we.cell? ((⟨w4.heap.size + 1, 0, none⟩ : Addr).add j) = some u := by
            have := new_cells (w4.alloc (.cells (stampC ln i).toArray 38)) (stampC ln i) 38
            rw [World.size_alloc] at this
            rw [hwe]
            exact this
          have hsze : w4.heap.size + 2 = we.heap.size := by rw [hwe]; simp
          have HWE := Lib.hid hwe
          have HSE := Lib.hid hse
          have HCE := Lib.hid hce
          have HSZE := Lib.hid hsze
          have HSTE := Lib.hid (own_sm HST4.out hse (fun _ _ h => h))
          have HLFE := Lib.hid (own_sm HLF4.out hse (fun _ _ h => h))
          clear hwe hse hce hsze HST4 HLF4
          go_wp2_with (at_builtin; first
            | (refine wpList_append_own _ rfl (.tmp 74) (.tmp 76) 69 rfl w3.heap.size 38 i1 (.agg #[.int .i64 0, .int .u64 0]) 2 16 Try.underlying69 Hi1.out Hz1.out.1 Hz1.out.2.1 Hz1.out.2.2 rfl (by decide) _ i (rowsS ln i).flatten rfl (by rw [HWE.out] at HSTE; exact HSTE.out) ⟨w4.heap.size + 1, 0, none⟩ 1 1 (stampC ln i) rfl rfl (by rw [HWE.out] at HCE; exact HCE.out) (by simp [stampC, Value.oneCell']) (by unfold maxLen; omega) (by omega) (by simp; omega) ?_; intro v5 W5 hown5 hgr5 _; have hgr : ((w4.alloc (.cells (stampC ln i).toArray 38)).alloc (.cells (stampC ln i).toArray 38)).grownBy W5 (Value.slice a12 i c12).ownBlock := hgr5; rw [← HWE.out] at hgr; have HOWN5 := Lib.hid hown5; have HGR5 := Lib.hid hgr; obtain ⟨a5, c5, hv5⟩ := own_form0 hown5; subst hv5; clear hown5 hgr5 hgr; have HLF5 := Lib.hid (own_apart HLFE.out HGR5.out (own_ne HSTE.out HLFE.out (by decide))))
            | (refine wpList_append_own _ rfl (.tmp 78) (.tmp 80) 33 rfl w3.heap.size 3 i2 (.int .i64 0) 1 8 Try.underlying33 Hi2.out Hz2.out.1 Hz2.out.2.1 Hz2.out.2.2 rfl (by decide) _ i (ic (natI (List.range i))) rfl (HLF5.out.alloc _) ⟨W5.heap.size, 0, none⟩ 1 1 [.int .i64 (i : Int)] rfl rfl (new_cells W5 [.int .i64 (i : Int)] 3) (by simp [Value.oneCell']) (by unfold maxLen; omega) (by omega) (by have := HGR5.out.size; have := HSZE.out; simp; omega) ?_; intro v6 W6 hown6 hgr6 _; have HOWN6 := Lib.hid hown6; have HGR6 : Hid ((W5.alloc (.cells #[.int .i64 (i : Int)] 3 (0, 0))).grownBy W6 (Value.slice a13 i c13).ownBlock) := Lib.hid hgr6; clear hown6 hgr6))
          have e12 : ∀ b, (Value.slice a12 i c12).ownBlock = some b → w3.heap.size ≤ b := fun b e => (HSTE.out.lt _ e).1
          have e13 : ∀ b, (Value.slice a13 i c13).ownBlock = some b → w3.heap.size ≤ b := fun b e => (HLF5.out.lt _ e).1
          have s5 : Sm (fun b => w3.heap.size ≤ b) w4 W5 := (HSE.out.mono (fun _ h => h.elim)).trans (sm_grown HGR5.out e12)
          have s6 : Sm (fun b => w3.heap.size ≤ b) w4 W6 := (s5.alloc _).trans (sm_grown HGR6.out e13)
          have n1 : Hid (W6.ownsRow w3.heap.size 38 2 (.slice a5 (i + 1) c5) (i + 1) (rowsS ln (i + 1)).flatten) := Lib.hid (by
            have := own_apart (HOWN5.out.alloc (.cells #[.int .i64 (i : Int)] 3 (0, 0))) HGR6.out (own_ne HLF5.out HOWN5.out (by decide))
            rw [rowsS_succ, List.flatten_append]
            simpa using this)
          have n2 : Hid (W6.ownsRow w3.heap.size 3 1 v6 (i + 1) (ic (natI (List.range (i + 1))))) := Lib.hid (by
            have := HOWN6.out
            rw [List.range_succ]
            simpa [natI, ic] using this)
          have hB := HB.out
          have n3 : Hid (Lns T A (mL ln n (i + 1)) W6) := Lib.hid (HL4.out.sm s6 (by omega) (by omega))
          have n4 : Hid (OrdL O N M (List.replicate n 0) L [] W6) := Lib.hid (HO4.out.sm s6 (by omega) (by omega) (by omega))
          have n5 : Hid (Sm (fun b => w.heap.size ≤ b) w W6) := Lib.hid (HS4.out.trans (s6.mono (fun b e => by omega)))
          have n6 : w3.heap.size ≤ W6.heap.size := by have := s6.size; omega
          clear e12 e13 s5 s6 HOWN5 HGR5 HOWN6 HGR6 HLF5 HSTE HLFE HL4 HO4 HS4 HSE HCE HSZE HWE hB HR
          go_roundw
          case rel => exact ⟨i + 1, by omega, by first | rw [HP.out] | go_num, n1, n2, n3, n4, n5, n6⟩
          case measure => (try rw [HP.out]); simp only [intOf]; omega
        · obtain rfl : i = L := by omega
          clear hLn
          go_wp2_with fail
          go_meet
          case rel => exact ⟨hst, hlf, hO, hS, hsz⟩
  case rest =>
    obtain ⟨hst, hlf, hO, hS, hsz⟩ := hcut
    obtain ⟨a12, c12, hv12⟩ := own_form0 hst.out
    subst hv12
    obtain ⟨a13, c13, hv13⟩ := own_form0 hlf.out
    subst hv13
    have hmb : ∀ W : World, (Instr.makeSlice 72 (.int .i64 L) (.int .i64 L)).run Try.prog W = .ok (.slice (some ⟨W.heap.size, 0, none⟩) L L) (W.alloc (.cells (Array.replicate L (Value.bool false)) 4)) := fun W => by have := make_bools L (by omega) W; rwa [List.toArray_replicate] at this
    have hmu : ∀ W : World, (Instr.makeSlice 42 (.int .i64 n) (.int .i64 n)).run Try.prog W = .ok (.slice (some ⟨W.heap.size, 0, none⟩) n n) (W.alloc (.cells (uw (List.replicate n 0)) 36)) := fun W => make_u64s n (by omega) W
    clear HLn HO HS3
    go_upto_block 2 with fail
    obtain ⟨P, hP⟩ : ∃ P, P = wc.heap.size := ⟨_, rfl⟩
    obtain ⟨B, hB⟩ : ∃ B, B = w3.heap.size := ⟨_, rfl⟩
    obtain ⟨wd, hwd⟩ : ∃ wd, wd = (wc.alloc (.cells (Array.replicate L (Value.bool false)) 4)).alloc (.cells (uw (List.replicate n 0)) 36) := ⟨_, rfl⟩
    have hk : Sm (fun _ => False) wc wd := by rw [hwd]; exact ((Sm.refl _ _).alloc _).alloc _
    have hom : OM B L ln O N M P (P + 1) w (.slice a12 L c12) (List.range L) (List.replicate n 0) (List.replicate n 0) [] wd := by
      rw [← hB] at hst hsz
      refine ⟨own_sm hst.out hk (fun _ _ h => h), hO.out.sm hk (fun h => h) (fun h => h) (fun h => h), ?_, ?_, hS.out.trans (hk.mono (fun _ h => h.elim)), ?_⟩
      · rw [hwd, hP, ← putB_start, List.toArray_replicate]
        exact (Row.new wc _ _).alloc _
      · rw [hwd, hP]
        have := Row.new (wc.alloc (.cells (Array.replicate L (Value.bool false)) 4)) (uw (List.replicate n 0)) 36
        rwa [World.size_alloc] at this
      · have := HB.out
        omega
    have hlf1 : wd.ownsRow B 3 1 (.slice a13 L c13) L (ic (natI (List.range L))) := by
      rw [hB]
      exact own_sm hlf.out hk (fun _ _ h => h)
    rw [← hwd, ← hP]
    have HOM := Lib.hid hom
    have HLF := Lib.hid hlf1
    have hBw : w.heap.size ≤ B := by have := HB.out; omega
    have HBW := Lib.hid hBw
    clear hk hom hlf1 hst hlf hO hS hsz hmb hmu hP hB hwd HB hBw
    go_cut [13, 19] from 20 (fun s13 s19 wx => ∃ (d pl nx : List Nat), Hid (OM B L ln O N M P (P + 1) w (.slice a12 L c12) pl nx nx [] wx) ∧ Hid (wx.ownsRow B 54 12 s19 d.length (d.map (doneF ln)).flatten) ∧ Hid (LI L n ln (fun j => j ∉ pl) nx [] d) ∧ d.length = L)
    case first =>
      go_wp2_with fail
      go_loopw [13, 19, 20] (fun s13 s19 s20 wr => ∃ (i : Nat) (left d nx : List Nat) (ws : List Wt), i + left.length = L ∧ s20 = .int .i64 i ∧ Hid (OM B L ln O N M P (P + 1) w (.slice a12 L c12) left nx nx ws wr) ∧ Hid (wr.ownsRow B 3 1 s13 left.length (ic (natI left))) ∧ Hid (wr.ownsRow B 54 12 s19 d.length (d.map (doneF ln)).flatten) ∧ Hid (LI L n ln (fun j => j ∉ left) nx ws d) ∧ Hid (Full L ln (fun j => j ∉ left) nx) ∧ Hid (left.Nodup ∧ ∀ j ∈ left, j < L) ∧ Hid (∀ y ∈ nx, y ≤ d.length)) (fun s13 s19 s20 wr => L - (intOf s20).toNat)
      case atStart => exact ⟨0, List.range L, [], List.replicate n 0, [], by simp, rfl, HOM, Lib.hid (by rw [List.length_range]; exact HLF.out), Lib.hid (World.ownsRow_nil _ _ _ _), Lib.hid (LI.start L n ln _ (fun j hj h => h (List.mem_range.2 hj))), Lib.hid (fun j hj h => absurd (List.mem_range.2 hj) h), Lib.hid ⟨List.nodup_range, fun j hj => List.mem_range.1 hj⟩, Lib.hid (fun y hy => by rw [List.eq_of_mem_replicate hy]; exact Nat.zero_le _)⟩
      case round =>
        obtain ⟨i, left, d, nx, ws, hiL, rfl, hom, hlf, hdn, hli, hfu, hnl, hbd⟩ := hrel
        obtain ⟨a19, c19, hv19⟩ := own_form0 hdn.out
        subst hv19
        by_cases hlt : 0 < left.length
        · have j1 : (0 : Int) < (left.length : Int) := by omega
          obtain ⟨a13, c13, hv13, hcap, -, hcl⟩ := own_reads (by decide) hlf.out
          obtain ⟨g13, rfl, -, -, hcl⟩ := hcl hlt
          subst hv13
          have HCL := Lib.hid hcl
          clear hcl HOM HLF
          obtain ⟨nl, hnl0⟩ : ∃ nl, nl = left.length := ⟨_, rfl⟩
          have HNL := Lib.hid hnl0
          rw [← hnl0] at hiL hlt j1 hcap ⊢
          clear hnl0
          go_upto_if 95 with fail
          go_cut [21] (fun s21 wx => ∃ k : Nat, k < nl ∧ s21 = .int .i64 k ∧ wx = wr)
          case first =>
            as_aux_lemma =>
              by_cases him : i < m
              · have j2 : (i : Int) < (m : Int) := by omega
                obtain ⟨b1, b2, b3, b4⟩ := HN.out.sm hom.out.sm (fun b hb e => by omega)
                obtain ⟨sb, so, rfl, -, b5⟩ := b4 (by rw [← HM.out]; omega)
                simp only [Value.slice.injEq] at b3
                obtain ⟨rfl, -, rfl⟩ := b3
                have hish : i < sh.length := by rw [← HM.out]; exact him
                have b6 := b5 i hish
                obtain ⟨z, hz⟩ : ∃ z, z = sh[i] := ⟨_, rfl⟩
                rw [← hz] at b6
                clear b5 b4 hz hish
                go_wp2_with fail
                refine (within_c z nl j1 (by omega) wr).mono ?_
                rintro e w2 ⟨rfl, rfl⟩
                have hwi := wi_lt z nl j1
                obtain ⟨k, hk⟩ : ∃ k, k = wi z nl := ⟨_, rfl⟩
                rw [← hk] at hwi ⊢
                clear hk
                go_wp2_with fail
                go_meet
                case rel => exact ⟨k, by omega, rfl, rfl⟩
              · have j2 : ¬ (i : Int) < (m : Int) := by omega
                go_wp2_with fail
                go_meet
                case rel => exact ⟨0, hlt, rfl, rfl⟩
          case rest =>
            obtain ⟨k, hk, rfl, rfl⟩ := hcut
            have hkl : k < left.length := by rw [← HNL.out]; exact hk
            obtain ⟨x, hx⟩ : ∃ x, x = left[k] := ⟨_, rfl⟩
            have hlnn : ∀ j, ln j < n := fun j => by rw [HLN.out]; exact lnF_lt KS n hn0 j
            obtain ⟨js, left', nx2, ws2, hl', hxL, hmem, hnl2, hll, hput, hnx2, hjs, hli2, hfu2, hbd2, hnxb, hwsb, hdj, hnxl⟩ := round_law hL60 hli.out hfu.out hnl.out hbd.out hlnn hkl hx
            rw [← HNL.out] at hll
            obtain ⟨g12, rfl, -⟩ := hom.out.stamp rfl hxL
            have hob := hom.out.ob
            have hlt2 := hom.out.lt
            have hBs : B ≤ wc.heap.size := by omega
            obtain ⟨k1, hk1⟩ : ∃ k1, k1 = k + 1 := ⟨_, rfl⟩
            have HP := Lib.hid (show wrap64 ((k : Int) + 1) = (k1 : Int) by unfold wrap64; omega)
            have hcx : wc.cell? ⟨g13, k, none⟩ = some (.int .i64 (x : Int)) := HCL.out k _ (by rw [hx]; simp [ic, natI, hkl])
            have HC1 : Hid (∀ (j : Nat) (u : Value), (ic (natI (left.take k)))[j]? = some u → wc.cell? ((⟨g13, 0, none⟩ : Addr).add j) = some u) := Lib.hid (fun j u hu => by
              rw [add_plain', Nat.zero_add]
              refine HCL.out j u ?_
              have e : ic (natI (left.take k)) = (ic (natI left)).take k := by simp [ic, natI, List.map_take]
              rw [e, List.getElem?_take] at hu
              split at hu
              · exact hu
              · cases hu)
            have HONE : Hid (∀ l : List Nat, ∀ u ∈ ic (natI l), u.oneCell' = true) := Lib.hid (by simp [ic, natI, Value.oneCell'])
            have hlen1 : (ic (natI (left.take k))).length = k * 1 := by simp [ic, natI]; omega
            have hlen2 : (ic (natI (left.drop k1))).length = (nl - k1) * 1 := by have := HNL.out; simp [ic, natI]; omega
            have j3 : (k : Int) < (nl : Int) := by omega
            have j4 : (k : Int) ≤ (c13 : Int) := by omega
            have j5 : (x : Int) < (L : Int) := by omega
            have HK1 := Lib.hid hk1
            have HL' := Lib.hid hl'
            have HMEM := Lib.hid hmem
            have HNL2 := Lib.hid hnl2
            have HLL := Lib.hid hll
            have HPUT := Lib.hid hput
            have HNX2 := Lib.hid hnx2
            have HJS := Lib.hid hjs
            have HLI2 := Lib.hid hli2
            have HFU2 := Lib.hid hfu2
            have HBD2 := Lib.hid hbd2
            have HNXB := Lib.hid hnxb
            have HWSB := Lib.hid hwsb
            have HDJ := Lib.hid hdj
            have HNXL := Lib.hid hnxl
            have HLNN := Lib.hid hlnn
            have HHL := Lib.hid (show k1 ≤ nl ∧ nl ≤ c13 ∧ nl ≤ 60 from ⟨by omega, by omega, by omega⟩)
            have HBS := Lib.hid hBs
            have HXL := Lib.hid hxL
            have HIL := Lib.hid hiL
            have HLE1 := Lib.hid hlen1
            have HLE2 := Lib.hid hlen2
            clear hk1 hl' hmem hx hnl2 hll hput hnx2 hjs hli2 hfu2 hbd2 hnxb hwsb hdj hnxl hlnn hBs hob hlt2 hxL hiL hkl hli hfu hnl hbd HCL hlen1 hlen2 hcap hk hlt
            go_wp2_with (at_builtin; refine wpList_append_own _ rfl (.tmp 107) (.tmp 110) 33 rfl B 3 i2 (.int .i64 0) 1 8 Try.underlying33 Hi2.out Hz2.out.1 Hz2.out.2.1 Hz2.out.2.2 rfl (by decide) _ 0 [] rfl (World.ownsRow_nil _ _ _ _) ⟨g13, 0, none⟩ k c13 (ic (natI (left.take k))) rfl HLE1.out HC1.out (HONE.out _) (by unfold maxLen; have := HHL.out; have := HK1.out; omega) (by have := HHL.out; have := HK1.out; omega) HBS.out ?_)
            intro v5 W5 hown5 hgr5 _
            have hown5 : W5.ownsRow B 3 1 v5 k (ic (natI (left.take k))) := by simpa using hown5
            have HOWN5 := Lib.hid hown5
            obtain ⟨a5, c5, hv5⟩ := own_form0 hown5
            subst hv5
            have hnil5 : wc.ownsRow B 3 1 (.slice none 0 0) 0 [] := World.ownsRow_nil _ _ _ _
            have HOM5 := Lib.hid (OM.grow hom.out hnil5 (by decide) (by decide) (by decide) hgr5)
            have HLF5 := Lib.hid (own_apart hlf.out hgr5 (.inl (show (Value.slice none 0 0).ownBlock = none from rfl)))
            have HDN5 := Lib.hid (own_apart hdn.out hgr5 (.inl (show (Value.slice none 0 0).ownBlock = none from rfl)))
            have HBS5 := Lib.hid (Nat.le_trans HBS.out hgr5.size)
            have HC2 : Hid (∀ ad : Addr, (k1 < nl → ad = ⟨g13, k1, none⟩) → ∀ (j : Nat) (u : Value), (ic (natI (left.drop k1)))[j]? = some u → W5.cell? (ad.add j) = some u) := Lib.hid (fun ad had j u hu => by
              obtain ⟨b13, d13, e13, -, -, r13⟩ := own_reads (by decide) HLF5.out
              have e : ic (natI (left.drop k1)) = (ic (natI left)).drop k1 := by simp [ic, natI, List.map_drop]
              rw [e, List.getElem?_drop] at hu
              have h1 := (List.getElem?_eq_some_iff.1 hu).1
              have h2 : (ic (natI left)).length = nl := by simp [ic, natI, HNL.out]
              obtain ⟨g, hg, -, -, r13⟩ := r13 (by rw [← HNL.out]; omega)
              rw [hg] at e13
              simp only [Value.slice.injEq, Option.some.injEq, Addr.mk.injEq] at e13
              rw [had (by omega), add_plain', e13.1.1]
              exact r13 _ u hu)
            clear hown5 hgr5
            go_wp2_with (refine wpList_slice_from rfl (.tmp 113) (.tmp 115) rfl g13 nl c13 k1 (by simp [Act.eval, Act.put]) (by simp [Act.eval, Act.put, HP.out]) HHL.out.1 HHL.out.2.1 ?_)
            intro ad had
            have HAD := Lib.hid had
            clear had
            go_wp2_with (at_builtin; refine wpList_append_own _ rfl (.tmp 112) (.tmp 116) 33 rfl B 3 i2 (.int .i64 0) 1 8 Try.underlying33 Hi2.out Hz2.out.1 Hz2.out.2.1 Hz2.out.2.2 rfl (by decide) _ k (ic (natI (left.take k))) rfl HOWN5.out ad (nl - k1) (c13 - k1) (ic (natI (left.drop k1))) rfl HLE2.out (HC2.out ad HAD.out) (HONE.out _) (by unfold maxLen; have := HHL.out; have := HK1.out; omega) (by have := HHL.out; have := HK1.out; omega) HBS5.out ?_)
            intro v6 W6 hown6 hgr6 _
            have e1 : k + (nl - k1) = left'.length := by have := HLL.out; have := HHL.out; have := HK1.out; omega
            have e2 : ic (natI (left.take k)) ++ ic (natI (left.drop k1)) = ic (natI left') := by rw [HL'.out, HK1.out]; simp [ic, natI]
            have hown6 : W6.ownsRow B 3 1 v6 left'.length (ic (natI left')) := by rw [← e1, ← e2]; exact hown6
            have HOWN6 := Lib.hid hown6
            obtain ⟨a6, c6, hv6⟩ := own_form0 hown6
            subst hv6
            have HOM6 := Lib.hid (HOM5.out.grow HOWN5.out (by decide) (by decide) (by decide) hgr6)
            have HDN6 := Lib.hid (own_apart HDN5.out hgr6 (own_ne HOWN5.out HDN5.out (by decide)))
            have pc := (HOM6.out.put.cell x).trans (putB_get L left x HXL.out)
            have pf := HOM6.out.put.free x
            have HOM7 := Lib.hid (HOM6.out.putAt HMEM.out)
            have HR7 : Hid ((W6.setCell ⟨P, x, none⟩ (.bool true)).rangeAt g12 (x * 2) (stampC ln x)) := Lib.hid (by
              obtain ⟨g, hg, hr⟩ := HOM7.out.stamp rfl HXL.out
              simp only [Option.some.injEq, Addr.mk.injEq] at hg
              rw [hg.1]
              exact hr)
            clear e1 e2 hown6 hgr6
            go_wp2_with (refine wpList_load_mid rfl 38 (.tmp 125) rfl g12 (x * 2) (by simp [Act.eval, Act.put]) (stampC ln x) _ HR7.out Try.underlying38 rfl (by kernel_rfl) ?_)
            have hlnA := HLNN.out x
            have hsqx : sq ln x ≤ x := cnt_le ln _ x
            have hxL2 := HXL.out
            have hlt7 := HOM7.out.lt
            refine (put_c O N M nx L ws _ HOM7.out.od HNXB.out HWSB.out (by omega) (ln x : Int) (by omega) (by omega) (sq ln x) (by omega) (x : Int) (wf_i64 _ (by omega) (by omega))).mono ?_
            rintro e w8 ⟨v24, rfl, hown8, hs8, ho8⟩
            rw [HPUT.out] at hown8 ho8 ⊢
            have hown8 : w8.ownsRow (W6.setCell ⟨P, x, none⟩ (.bool true)).heap.size 3 1 v24 js.length (ic (natI js)) := by
              have := hown8
              rwa [natI_len] at this
            have hob := HOM7.out.ob
            obtain ⟨a24, c24, hv24⟩ := own_form0 hown8
            subst hv24
            have HIM := Lib.hid (show IM B L ln O N M P (P + 1) w (.slice (some ⟨g12, 0, none⟩) L c12) (.slice a6 left'.length c6) (.slice a19 d.length c19) (.slice a24 js.length c24) left' nx2 nx ws2 d js w8 from ⟨HOM7.out.called hs8 ho8, own_sm (HOM6.out.own_put HOWN6.out (by decide) x _) hs8 (by omega), own_sm (HOM6.out.own_put HDN6.out (by decide) x _) hs8 (by omega), own_base hown8 (by omega)⟩)
            obtain ⟨A, hA⟩ : ∃ A, A = ln x := ⟨_, rfl⟩
            obtain ⟨s0, hs0⟩ : ∃ s0, s0 = nx.getD A 0 := ⟨_, rfl⟩
            have HNX3 := Lib.hid (show nx2 = nx.set A (s0 + js.length) by rw [hs0, hA]; exact HNX2.out)
            have HJS3 := Lib.hid (show ∀ m (hm : m < js.length), js[m] < L ∧ js[m] ∉ left' ∧ ln js[m] = A ∧ sq ln js[m] = s0 + m by rw [hs0, hA]; exact HJS.out)
            have HSET := Lib.hid (show nx.set A (s0 + 0) = nx by rw [hs0]; exact set_getD_self nx A)
            have HAn := Lib.hid (show A < n by rw [hA]; exact hlnA)
            have HIM0 := Lib.hid (show IM B L ln O N M P (P + 1) w (.slice (some ⟨g12, 0, none⟩) L c12) (.slice a6 left'.length c6) (.slice a19 d.length c19) (.slice a24 js.length c24) left' nx2 (nx.set A (s0 + 0)) ws2 (d ++ js.take 0) js w8 by rw [HSET.out, List.take_zero, List.append_nil]; exact HIM.out)
            have hs0b : s0 ≤ 1000000 := by
              rw [hs0, List.getD_eq_getElem?_getD]
              cases h : nx[A]? with
              | none => exact Nat.zero_le _
              | some z => have := HNXB.out z (List.mem_of_getElem? h); show z ≤ _; omega
            have HS0B := Lib.hid hs0b
            have HOUT := Lib.hid (HLI2.out)
            clear hown8 hs8 ho8 hob hlt7 hxL2 hsqx hlnA hA hs0 hs0b pc pf hcx HOM5 HOM6 HOM7 HIM HLF5 HDN5 HDN6 HOWN5 HOWN6 HC1 HC2 HR7 HNX2 HJS HPUT hom hlf hdn HMEM
            go_wp2_with fail
            go_loopw [19, 26] (fun s19 s26 wr => ∃ q : Nat, q ≤ js.length ∧ s26 = .int .i64 q ∧ Hid (IM B L ln O N M P (P + 1) w (.slice (some ⟨g12, 0, none⟩) L c12) (.slice a6 left'.length c6) s19 (.slice a24 js.length c24) left' nx2 (nx.set A (s0 + q)) ws2 (d ++ js.take q) js wr)) (fun s19 s26 wr => js.length - (intOf s26).toNat)
            case atStart => exact ⟨0, Nat.zero_le _, rfl, HIM0⟩
            case round =>
              obtain ⟨q, hq, rfl, him⟩ := hrel
              obtain ⟨wi0, rfl⟩ : ∃ wi0 : World, wi0 = wr := ⟨_, rfl⟩
              obtain ⟨dq, hdq⟩ : ∃ dq, dq = d ++ js.take q := ⟨_, rfl⟩
              obtain ⟨nq0, hnq0⟩ : ∃ nq0, nq0 = nx.set A (s0 + q) := ⟨_, rfl⟩
              rw [← hdq, ← hnq0] at him
              obtain ⟨a19, c19, hv19⟩ := own_form0 him.out.dn
              subst hv19
              have HDQ := Lib.hid hdq
              have HNQ := Lib.hid hnq0
              clear hdq hnq0 HIM0 HSET
              by_cases hqlt : q < js.length
              · have hqj : q < js.length := hqlt
                obtain ⟨y, hy⟩ : ∃ y, y = js[q] := ⟨_, rfl⟩
                obtain ⟨hyL, hyl, hyA, hys⟩ := HJS3.out q hqj
                rw [← hy] at hyL hyl hyA hys
                obtain ⟨a24', c24', hv24, -, -, hcl⟩ := own_reads (by decide) him.out.ou
                obtain ⟨g24, rfl, -, -, hcl⟩ := hcl (by omega)
                simp only [Value.slice.injEq] at hv24
                obtain ⟨rfl, -, rfl⟩ := hv24
                have hcy : wi0.cell? ⟨g24, q, none⟩ = some (.int .i64 (y : Int)) := hcl q _ (by rw [hy]; simp [ic, natI, hqj])
                have hcp : wi0.cell? ⟨P, y, none⟩ = some (.bool true) := (him.out.om.put.cell y).trans ((putB_get L left' y hyL).trans (by simp [hyl]))
                obtain ⟨g, hg, hst⟩ := him.out.om.stamp rfl hyL
                simp only [Option.some.injEq, Addr.mk.injEq] at hg
                obtain ⟨rfl, -⟩ := hg
                have hst0 : wi0.cell? ⟨g12, y * 2, none⟩ = some (.int .i64 (A : Int)) := by
                  have := hst 0 _ rfl
                  rw [hyA] at this
                  exact this
                obtain ⟨s, hs⟩ : ∃ s, s = s0 + q := ⟨_, rfl⟩
                have hst1 : wi0.cell? ⟨g12, y * 2 + 1, none⟩ = some (.int .u64 (s : Int)) := by
                  have := hst 1 _ rfl
                  rw [hys, ← hs] at this
                  exact this
                have hAl : A < nx.length := by rw [HNXL.out]; exact HAn.out
                have hcn : wi0.cell? ⟨P + 1, A, none⟩ = some (.int .u64 (s : Int)) := (him.out.om.nxt.cell A).trans (by rw [HNQ.out, ← hs]; simp [uw, hAl])
                have hfn := him.out.om.nxt.free A
                have hkq : d ++ js.take (q + 1) = dq ++ [y] := by rw [HDQ.out, List.append_assoc, hy, List.take_append_getElem]
                have HKQ := Lib.hid hkq
                have j1 : (q : Int) < (js.length : Int) := by omega
                have j2 : (y : Int) < (L : Int) := by omega
                have j3 : (A : Int) < (n : Int) := by have := HAn.out; omega
                have j4 : ¬ (y : Int) < 0 := by omega
                have j5 : ¬ (L : Int) ≤ (y : Int) := by omega
                have q1 : decide ((y : Int) < 0) = false := by simp
                have q2 : decide (L ≤ y) = false := by simp; omega
                have q3 : decide ((L : Int) ≤ (y : Int)) = false := by simp; omega
                have HYJ := Lib.hid (show (ic (natI js))[q]? = some (.int .i64 (y : Int)) by rw [hy]; simp [ic, natI, hqj])
                have HYL := Lib.hid hyL
                have HYA := Lib.hid hyA
                have HYS := Lib.hid (show sq ln y = s by rw [hys, hs])
                have HS := Lib.hid hs
                have HS1 := Lib.hid (show IntKind.u64.wrap ((s : Int) + 1) = ((s + 1 : Nat) : Int) by have := HS0B.out; rw [IntKind.wrap_u64]; have := HDJ.out; omega)
                clear hy hyl hyA hys hkq hs hst hcl hqj hyL hAl
                go_wp2_with fail
                try simp only [Act.put]
                refine wp_region_quiet_lit (by kernel_rfl) (by kernel_rfl) ?_
                repeat (first
                  | go_big_quiet_skip
                  | (go_big_quiet_want; go_big_quiet_op; go_big_quiet_on))
                refine wpQuiet_nil ?_
                intro _ hw'
                obtain ⟨nq, hw''⟩ := hw'
                subst hw''
                obtain ⟨wn, hwn⟩ : ∃ wn, wn = wi0.drewN nq := ⟨_, rfl⟩
                have him1 := him.out.fresh (w' := wn) (by rw [hwn]; exact (Sm.refl _ _).drewN nq)
                rw [← hwn]
                have hcy : wn.cell? ⟨g24, q, none⟩ = some (.int .i64 (y : Int)) := by rw [hwn]; exact hcy
                have hst0 : wn.cell? ⟨g12, y * 2, none⟩ = some (.int .i64 (A : Int)) := by rw [hwn]; exact hst0
                have hst1 : wn.cell? ⟨g12, y * 2 + 1, none⟩ = some (.int .u64 (s : Int)) := by rw [hwn]; exact hst1
                have hcn : wn.cell? ⟨P + 1, A, none⟩ = some (.int .u64 (s : Int)) := by rw [hwn]; exact hcn
                have hfn := him1.om.nxt.free A
                have him2 := him1.nextAt A (s + 1)
                have HIM2 := Lib.hid him2
                clear hwn him1 him2 him
                go_wp2_with fail
                rw [HS1.out]
                obtain ⟨wE, hwE⟩ : ∃ wE, wE = wn.setCell ⟨P + 1, A, none⟩ (.int .u64 ((s + 1 : Nat) : Int)) := ⟨_, rfl⟩
                rw [← hwE] at HIM2 ⊢
                clear hwE hcy hst0 hst1 hcn hfn hcp j3 q1 q2 q3 HS1
                obtain ⟨a25, c25, hv25, -, -, hcl⟩ := own_reads (by decide) HIM2.out.ou
                obtain ⟨g25, hg25, -, -, hcl⟩ := hcl (by omega)
                simp only [Value.slice.injEq] at hv25
                rw [← hv25.1] at hg25
                simp only [Option.some.injEq, Addr.mk.injEq] at hg25
                obtain ⟨rfl, -⟩ := hg25
                have hcy : wE.cell? ⟨g24, q, none⟩ = some (.int .i64 (y : Int)) := hcl q _ HYJ.out
                obtain ⟨g, hg, hst⟩ := HIM2.out.om.stamp rfl HYL.out
                simp only [Option.some.injEq, Addr.mk.injEq] at hg
                obtain ⟨rfl, -⟩ := hg
                have hst0 : wE.cell? ⟨g12, y * 2, none⟩ = some (.int .i64 (A : Int)) := by
                  have := hst 0 _ rfl
                  rw [HYA.out] at this
                  exact this
                have hst1 : wE.cell? ⟨g12, y * 2 + 1, none⟩ = some (.int .u64 (s : Int)) := by
                  have := hst 1 _ rfl
                  rw [HYS.out] at this
                  exact this
                clear hcl hst hv25
                have hBE : B ≤ wE.heap.size := by
                  have h1 := HIM2.out.om.ob
                  have h2 := HIM2.out.om.lt
                  omega
                have hdl0 : dq.length ≤ 60 := by
                  have h1 := HDJ.out
                  rw [HDQ.out, List.length_append, List.length_take]
                  omega
                have HBD1 := Lib.hid (show dq.length + 1 ≤ maxLen by unfold maxLen; omega)
                have HBD3 := Lib.hid (show (dq.length + 1) * 88 ≤ 140737488355328 by omega)
                have ne1 : (Value.slice a19 dq.length c19).ownBlock ≠ some g24 := fun h => by
                  rcases own_ne HIM2.out.dn HIM2.out.ou (by decide) with h1 | h1
                  · rw [h1] at h; cases h
                  · exact h1 h
                have ne2 : (Value.slice a19 dq.length c19).ownBlock ≠ some g12 := fun h => by
                  rcases own_ne HIM2.out.dn HIM2.out.om.st (by decide) with h1 | h1
                  · rw [h1] at h; cases h
                  · exact h1 h
                have HDF := Lib.hid (show doneF ln y = [.int .i64 (y : Int), .int .i64 (A : Int), .int .u64 (s : Int), .int .u64 0, .int .i64 0, .int .i64 0, .int .i64 0, .int .i64 0, .int .i64 0, .bool false, .bool false, .int .i64 0] by rw [doneF, HYA.out, HYS.out])
                have l1 : g24 < wE.heap.size := World.block_lt_of_cell? wE _ hcy
                have l2 : g12 < wE.heap.size := World.block_lt_of_cell? wE _ hst0
                have k1 : (0 : Int) ≤ (q : Int) := Int.natCast_nonneg _
                have k2 : (0 : Int) ≤ (y : Int) := Int.natCast_nonneg _
                clear hdl0
                try simp only [Act.put]
                go_region_held3 (fun w' => w'.cell? ⟨g24, q, none⟩ = some (.int .i64 (y : Int)) ∧ w'.cell? ⟨g12, y * 2, none⟩ = some (.int .i64 (A : Int)) ∧ w'.cell? ⟨g12, y * 2 + 1, none⟩ = some (.int .u64 (s : Int)))
                  (first
                    | go_keep
                    | (go_split_ands
                       refine ⟨?_, ?_, ?_⟩
                       · (rw [hg5.cell_far _ (by simp; omega) (Ne.symm ne1)]; assumption)
                       · (rw [hg5.cell_far _ (by simp; omega) (Ne.symm ne2)]; assumption)
                       · (rw [hg5.cell_far _ (by simp; omega) (Ne.symm ne2)]; assumption)))
                  ((refine step_append_own (by rfl) _ _ _ (by rfl) B 54 i0 (.agg (doneS 0 0).toArray) 12 88 Try.underlying48 Hi.out Hz.out.1 Hz.out.2.1 Hz.out.2.2 rfl (by decide) (.slice a19 dq.length c19) dq.length (dq.map (doneF ln)).flatten (by rfl) ((HIM2.out.dn.alloc _).drew) ⟨wE.heap.size, 0, none⟩ 1 1 [.int .i64 (y : Int), .int .i64 (A : Int), .int .u64 (s : Int), .int .u64 0, .int .i64 0, .int .i64 0, .int .i64 0, .int .i64 0, .int .i64 0, .bool false, .bool false, .int .i64 0] (by rfl) (by rfl) (World.news_of_block (cs := #[.int .i64 (y : Int), .int .i64 (A : Int), .int .u64 (s : Int), .int .u64 0, .int .i64 0, .int .i64 0, .int .i64 0, .int .i64 0, .int .i64 0, .bool false, .bool false, .int .i64 0]) (t := 54) (fr := (0, 0)) (heap_alloc_new wE _)) (by simp [Value.oneCell']) HBD1.out HBD3.out (by simp; omega) ?_; intro v5 w5 hown5 hg5))
                have e1 : nq0.set A (s + 1) = nx.set A (s0 + (q + 1)) := by rw [HNQ.out, List.set_set, HS.out, Nat.add_assoc]
                have n1 : Hid (IM B L ln O N M P (P + 1) w (.slice (some ⟨g12, 0, none⟩) L c12) (.slice a6 left'.length c6) v5 (.slice (some ⟨g24, 0, none⟩) js.length c24) left' nx2 (nx.set A (s0 + (q + 1))) ws2 (d ++ js.take (q + 1)) js w5) := Lib.hid (by
                  rw [HKQ.out, ← e1]
                  refine (HIM2.out.fresh (((Sm.refl (fun _ => False) wE).alloc _).drew)).grow hg5 ?_
                  rw [HDF.out]
                  exact hown5)
                clear hown5 hg5 HIM2 e1 hcy hst0 hst1 ne1 ne2 hBE l1 l2 k1 k2
                go_wp2_with fail
                have hpq : wrap64 ((q : Int) + 1) = ((q + 1 : Nat) : Int) := by have := HDJ.out; unfold wrap64; omega
                have HPQ := Lib.hid hpq
                clear hpq
                go_roundw
                case rel => exact ⟨q + 1, by omega, by first | rw [HPQ.out] | go_num, n1⟩
                case measure => (try rw [HPQ.out]); simp only [intOf]; omega
              · obtain rfl : q = js.length := by omega
                have e1 : nq0 = nx2 := by rw [HNQ.out, HNX3.out]
                have e2 : dq = d ++ js := by rw [HDQ.out, List.take_length]
                have n1 : Hid (OM B L ln O N M P (P + 1) w (.slice (some ⟨g12, 0, none⟩) L c12) left' nx2 nx2 ws2 wi0) := Lib.hid (by have := him.out.om; rwa [e1] at this)
                have n2 : Hid (wi0.ownsRow B 3 1 (.slice a6 left'.length c6) left'.length (ic (natI left'))) := Lib.hid him.out.lf
                have n3 : Hid (wi0.ownsRow B 54 12 (.slice a19 dq.length c19) (d ++ js).length ((d ++ js).map (doneF ln)).flatten) := Lib.hid (by have := him.out.dn; rwa [e2] at this ⊢)
                clear him e1 e2
                have hll : i + 1 + left'.length = L := by have := HLL.out; have := HIL.out; omega
                go_wp2_with fail
                have hpi : wrap64 ((i : Int) + 1) = ((i + 1 : Nat) : Int) := by unfold wrap64; omega
                have HPI := Lib.hid hpi
                clear hpi
                go_roundw
                case rel => exact ⟨i + 1, left', d ++ js, nx2, ws2, hll, by first | rw [HPI.out] | go_num, n1, n2, n3, HLI2, HFU2, HNL2, HBD2⟩
                case measure => (try rw [HPI.out]); simp only [intOf]; omega
        · obtain rfl : left = [] := List.eq_nil_of_length_eq_zero (by omega)
          have j1 : ¬ (0 : Int) < (([] : List Nat).length : Int) := by decide
          obtain ⟨hdl, hwe⟩ := hli.out.all hfu.out (fun j hj h => by cases h)
          subst hwe
          obtain ⟨a13, c13, hv13⟩ := own_form0 hlf.out
          subst hv13
          have HDL := Lib.hid hdl
          clear HOM HLF hdl
          go_wp2_with fail
          go_meet
          case rel => exact ⟨d, [], nx, hom, hdn, hli, HDL.out⟩
    case rest =>
      as_aux_lemma =>
        obtain ⟨d, pl, nx, hom, hdn, hli, hdl⟩ := hcut
        obtain ⟨a19, c19, hv19⟩ := own_form0 hdn.out
        subst hv19
        have hsm := hom.out.sm
        have HKW := Lib.hid (HK.out.sm hsm (fun b hb e => by omega))
        have HDW := Lib.hid (recs_own _ (by decide) hdn.out (doneF_12 ln d) (by rw [List.length_map]))
        have hkf : keptF KS (natI d) 0 (fun _ => 0) = (L, true) := out_fin HL.out hdl (by rw [← HLN.out]; exact hli.out)
        have HKF := Lib.hid hkf
        have HOD := Lib.hid hom.out.od
        have HSM := Lib.hid hsm
        have HDL := Lib.hid hdl
        rw [hdl] at HDW ⊢
        clear hkf hom hdn hli hsm hdl
        go_wp2_with fail
        refine (kept_c KS HKS.out (by rw [← HL.out]; omega) _ _ (natI d) (d.map (doneF ln)) (by rw [natI_len, List.length_map]) (by rw [natI_len, HDL.out]; omega) (done_ok ln d) wc HKW.out HDW.out).mono ?_
        rintro e w9 ⟨rfl, hs9⟩
        rw [HKF.out]
        have HOD9 := Lib.hid (HOD.out.sm hs9 (fun h => h) (fun h => h) (fun h => h))
        have HSM9 := Lib.hid (HSM.out.trans (hs9.mono (fun _ h => h.elim)))
        clear hs9 HOD HSM HDW HKW
        go_wp2_with fail
        refine (waiting_c O N M _ L [] w9 HOD9.out).mono ?_
        rintro e w10 ⟨rfl, rfl⟩
        go_wp2
        go_ret
        exact ⟨rfl, Sm.new HSM9.out (fun b hb => hb)⟩
end Go.Proofs.Ythjdnhlckjchgaa
