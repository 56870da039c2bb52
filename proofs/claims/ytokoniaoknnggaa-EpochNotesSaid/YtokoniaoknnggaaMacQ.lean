/- The reference machine: Play of one thread, walked. -/
import Derived.Test.YtokoniaoknnggaaMacP
namespace Go.Proofs.Ytokoniaoknnggaa
open Go.RowKit
set_option linter.unusedVariables false
set_option linter.unusedSimpArgs false

theorem WV.wm {B A : Nat} {vW vL : Value} {ws : List (List Nat)} {nl : Nat} {w : World} {WB : Nat} {F : Nat → Prop} (h : WV B vW vL ws nl w) (hA : A ≤ B) (hr : Row w WB #[vW, vL] 32) (hm : F WB) (hF : ∀ b, F b → A ≤ b ∧ b < w.heap.size) (hall : ∀ b, B ≤ b → b < w.heap.size → F b) : WM A WB F ws nl w := by
  obtain ⟨vrs, h1, h2, h3⟩ := h.ex
  have key : ∀ (T : TypeId) (sz n : Nat) (v : Value) (xs : List Value), w.ownsRow B T sz v n xs → w.ownsRow A T sz v n xs := fun T sz n v xs ho => own_base ho (fun b hb => Nat.le_trans hA (ho.lt b hb).1)
  have keyF : ∀ (T : TypeId) (sz n : Nat) (v : Value) (xs : List Value), w.ownsRow B T sz v n xs → ∀ b, v.ownBlock = some b → F b := fun T sz n v xs ho b hb => hall b (ho.lt b hb).1 (ho.lt b hb).2
  exact ⟨⟨vW, vL, vrs, hr, key _ _ _ _ _ h1, fun i l v hl hv => ⟨key _ _ _ _ _ (h2 i l v hl hv).1, (h2 i l v hl hv).2.1, keyF _ _ _ _ _ (h2 i l v hl hv).1⟩, h3, keyF _ _ _ _ _ h1, key _ _ _ _ _ h.lists, keyF _ _ _ _ _ h.lists⟩, hm, hF, by have := h.few; omega⟩
theorem opS_call {x : In} {ws ws1 : List (List Nat)} {s s1 : MS} {mk : Nat × Nat} (h : opS x ws s = some (s1, ws1, mk)) : s1.call = s.call ∧ s1.ans = s.ans := by
  unfold opS at h
  split at h
  · split at h
    · cases h
    · split at h
      · cases h
      · split at h
        · split at h
          · cases h
            exact ⟨rfl, rfl⟩
          · cases h
        · cases h
          exact ⟨rfl, rfl⟩
        · split at h
          · cases h
            exact ⟨rfl, rfl⟩
          · cases h
            exact ⟨rfl, rfl⟩
        · cases h
  · cases h
theorem opS_len {x : In} {ws ws1 : List (List Nat)} {s s1 : MS} {mk : Nat × Nat} (h : opS x ws s = some (s1, ws1, mk)) : ws1.map List.length = ws.map List.length := by
  have key : ∀ (o : Nat) (l l' : List Nat), ws[o]? = some l → l'.length = l.length → (ws.set o l').map List.length = ws.map List.length := fun o l l' hl he => by
    rw [List.map_set, he]
    apply List.ext_getElem?
    intro i
    rw [List.getElem?_set]
    split
    · next e =>
      subst e
      have h2 : (ws.map List.length)[o]? = some l.length := by simp [hl]
      have h3 : o < (ws.map List.length).length := (List.getElem?_eq_some_iff.1 h2).1
      rw [h2]
      simp at h3
      simp [h3]
    · rfl
  unfold opS at h
  split at h
  · split at h
    · cases h
    · next l hl =>
      split at h
      · cases h
      · split at h
        · split at h
          · cases h
            rfl
          · cases h
        · cases h
          exact key _ _ _ hl (by simp)
        · split at h
          · cases h
            exact key _ _ _ hl (by simp)
          · cases h
            rfl
        · cases h
  · cases h
theorem playF_end {calls : List (List In × List Nat)} {N : Nat} : ∀ (m : Nat) (ws : List (List Nat)) (s : MS) (tr : List (Nat × Nat)) (sE : MS) (wsE : List (List Nat)) (trE : List (Nat × Nat)), playF calls N m ws s tr = some (sE, wsE, trE) → sE.over = true ∧ wsE.map List.length = ws.map List.length
  | 0, _, _, _, _, _, _, h => by cases h
  | m + 1, ws, s, tr, sE, wsE, trE, h => by
    unfold playF at h
    split at h
    · next e =>
      cases h
      exact ⟨e, rfl⟩
    · split at h
      · cases h
      · next s1 ws1 mk hop =>
        split at h
        · cases h
        · have := playF_end m _ _ _ _ _ _ h
          exact ⟨this.1, this.2.trans (opS_len hop)⟩
theorem WM.wv {A WB : Nat} {F : Nat → Prop} {ws : List (List Nat)} {nl : Nat} {w w' : World} (h : WM A WB F ws nl w) (k : Sm (fun _ => False) w w') (hl : ∀ l ∈ ws, 0 < l.length) (hn : ws.length < 1000 ∧ nl < 1000) {vW vL : Value} (h0 : w.cell? ⟨WB, 0, none⟩ = some vW) (h1 : w.cell? ⟨WB, 1, none⟩ = some vL) : WV A vW vL ws nl w' := by
  obtain ⟨v1, v2, vrs, r, g1, g2, g3, -, g5, -⟩ := h.ex
  have e1 : v1 = vW := Option.some.inj ((r.cell 0).symm.trans h0)
  have e2 : v2 = vL := Option.some.inj ((r.cell 1).symm.trans h1)
  subst e1 e2
  exact ⟨⟨vrs, own_smF g1 k (fun _ _ h => h), fun i l v hl' hv => ⟨own_smF (g2 i l v hl' hv).1 k (fun _ _ h => h), (g2 i l v hl' hv).2.1, hl l (List.mem_of_getElem? hl')⟩, g3⟩, own_smF g5 k (fun _ _ h => h), hn⟩
theorem Ans.weak {B : Nat} {F G : Nat → Prop} {va : Value} {ans : List (Bool × List Nat)} {w : World} (h : Ans B F va ans w) (hG : ∀ b, F b → G b) : Ans B G va ans w := by
  obtain ⟨vts, h1, h2, h3, h4⟩ := h.ex
  exact ⟨⟨vts, h1, h2, fun i p vt hp hv => ⟨(h3 i p vt hp hv).1, (h3 i p vt hp hv).2.1, fun b hb => hG b ((h3 i p vt hp hv).2.2 b hb)⟩, h4⟩, fun b hb => hG b (h.own b hb)⟩
theorem info_answ : (Try.prog.info? 114).map (fun i => (i.zero, i.size, i.bytes)) = some (some (.slice none 0 0), 1, 24) := by kernel_rfl
theorem results_play {fn : Func} {p q r : Tmp} (h : fn.results = #[.cell p 66, .tmp q, .cell r 32]) (tmps : Array Value) (w : World) (b1 b2 : Nat) (x y z u : Value) (hp : tmps.getD p undef = .pointer (some ⟨b1, 0, none⟩)) (hr : tmps.getD r undef = .pointer (some ⟨b2, 0, none⟩))
    (r1 : Row w b1 #[x, y] 66) (r2 : Row w b2 #[z, u] 32) : (results fn tmps).run Try.prog w = .ok (.tuple #[.agg #[x, y], tmps.getD q undef, .agg #[z, u]]) w := by
  have hp' : tmps[p]?.getD undef = .pointer (some ⟨b1, 0, none⟩) := by simpa using hp
  have hr' : tmps[r]?.getD undef = .pointer (some ⟨b2, 0, none⟩) := by simpa using hr
  have l1 := run_loadVar_row (P := Try.prog) w b1 66 66 #[x, y] (0, 0) _ r1 Try.underlying66 rfl (by kernel_rfl)
  have l2 := run_loadVar_row (P := Try.prog) w b2 32 32 #[z, u] (0, 0) _ r2 Try.underlying32 rfl (by kernel_rfl)
  simp [results, h, hp', hr', asAddr, l1, l2]
theorem info_turned : (Try.prog.info? 111).map (fun i => (i.zero, i.size, i.bytes)) = some (some (.agg #[.int .i64 0, .int .u8 0, .int .i64 0]), 3, 24) := by kernel_rfl
theorem pk_keep {A0 WB P1 P2 T L PB : Nat} {vc : Value} {calls : List (List In × List Nat)} {w : World} {F FW : Nat → Prop} {s s2 : MS} {ws ws1 : List (List Nat)} {nl : Nat} {tr : List (Nat × Nat)} {vT : Value} {wr x : World} (h : PK A0 WB P1 P2 T L PB vc calls w F FW s ws nl tr vT wr)
    (hop : OpEnd A0 T WB vc F FW s2 ws1 nl wr x) : Row x PB #[vT, .slice none 0 0] 66 ∧ x.ownsRow A0 111 3 vT tr.length (trC tr) ∧ A0 ≤ x.heap.size := by
  obtain ⟨F', hT, hW, k, hF⟩ := hop
  have hx := h.pj.xf
  have hnX : ∀ b, (b = P1 ∨ b = P2 ∨ b = L ∨ b = PB ∨ vT.ownBlock = some b) → ¬ (F b ∨ FW b) := fun b hb e => e.elim (hx b hb).1 (hx b hb).2.1
  exact ⟨h.rB.sm k (hnX PB (.inr (.inr (.inr (.inl rfl))))), own_smF h.tr k (fun b hb => hnX b (.inr (.inr (.inr (.inr hb))))), by have := h.pj.low; have := h.pj.sm.size; have := k.size; omega⟩
theorem pk_keep5 {A0 WB P1 P2 T L PB : Nat} {vc : Value} {calls : List (List In × List Nat)} {w : World} {F FW : Nat → Prop} {s s2 : MS} {ws ws1 : List (List Nat)} {nl : Nat} {tr : List (Nat × Nat)} {vT : Value} {wr x w5 : World} {o : Obj} (h : PK A0 WB P1 P2 T L PB vc calls w F FW s ws nl tr vT wr)
    (hop : OpEnd A0 T WB vc F FW s2 ws1 nl wr x) (hg : (x.alloc o).grownBy w5 vT.ownBlock) : w5.cell? ⟨PB, 0, none⟩ = some vT ∧ w5.frozen? ⟨PB, 0, none⟩ = false := by
  have hr := (pk_keep h hop).1
  have hr5 : Row w5 PB #[vT, .slice none 0 0] 66 := (hr.sm ((Sm.refl (fun _ => False) x).alloc o) (fun h => h)).sm (F := fun b => vT.ownBlock = some b) (sm_grown hg (fun b e => e)) (fun e => by have := h.nv PB e; omega)
  exact ⟨hr5.cell 0, hr5.free 0⟩
theorem start_ti {A T : Nat} {vc : Value} {w : World} (hr : Row w T (thrC vc 0 0 (List.replicate 24 0) (.slice none 0 0) false) 143) (hA : A ≤ T) : TI A T vc (fun b => b = T) startS w :=
  ⟨⟨.slice none 0 0, ⟨hr, rfl, by decide⟩, ⟨⟨[], rfl, World.ownsRow_nil _ _ _ _, fun i p vt h => by simp [startS] at h, fun i j vi vj b h => by simp at h⟩, fun b hb => by cases hb⟩⟩, fun b hb => by subst hb; exact ⟨hA, hr.lt⟩, rfl, fun v hv => by have := List.eq_of_mem_replicate hv; omega, by decide⟩
theorem info_ptr : (Try.prog.info? 140).map (fun i => (i.zero, i.size, i.bytes)) = some (some (.pointer none), 1, 8) := by kernel_rfl
theorem start_pj {A0 WB T L : Nat} {aw al : Option Addr} {cw cl : Nat} {vc : Value} {calls : List (List In × List Nat)} {w w0 w2 wa w4 : World} {ws : List (List Nat)} {nl cL : Nat} {o : Obj} (hA : A0 = w.heap.size)
    (hR : Row w0 (A0 + 1) #[.slice none 0 0, .slice none 0 0] 66 ∧ Row w0 (A0 + 1 + 1) #[.slice none 0 0, .slice none 0 0] 32 ∧ Sm (fun _ => False) w w0 ∧ w0.heap.size = A0 + 3) (hk2 : Sm (fun _ => False) w0 w2) (hWB : A0 + 3 ≤ WB)
    (hV : WV w0.heap.size (.slice aw ws.length cw) (.slice al nl cl) ws nl w2) (hrW : Row w2 WB #[.slice aw ws.length cw, .slice al nl cl] 32) (hC : CallsB w.heap.size vc calls w) (hT : T = w2.heap.size) (hwa : wa = (w2.alloc (.cells (thrC vc 0 0 (List.replicate 24 0) (.slice none 0 0) false) 143)).alloc o)
    (hg : wa.grownBy w4 none) (ho : w4.ownsRow (w2.heap.size + 2) 140 1 (.slice (some ⟨L, 0, none⟩) 1 cL) 1 [.pointer (some ⟨T, 0, none⟩)]) :
    PJ A0 WB (A0 + 1) (A0 + 1 + 1) T L vc calls w (fun b => b = A0 + 1 ∨ b = A0 + 1 + 1 ∨ b = L) (fun b => b = T) (fun b => A0 + 3 ≤ b ∧ b < w2.heap.size) startS ws nl w4 := by
  obtain ⟨r1, r2, s0, z0⟩ := hR
  have kg : Sm (fun _ => False) wa w4 := sm_grown hg (fun b h => by cases h)
  have k24 : Sm (fun _ => False) w2 w4 := by
    rw [hwa] at kg
    exact (((Sm.refl _ w2).alloc _).alloc _).trans kg
  have k04 := hk2.trans k24
  have hrT : Row w4 T (thrC vc 0 0 (List.replicate 24 0) (.slice none 0 0) false) 143 := by
    have : Row wa T (thrC vc 0 0 (List.replicate 24 0) (.slice none 0 0) false) 143 := by rw [hwa, hT]; exact (Row.new w2 _ _).alloc _
    exact this.sm kg (fun h => h)
  have z2 := hk2.size
  have hL := ho.lt L rfl
  have zwa : wa.heap.size = w2.heap.size + 2 := by rw [hwa]; simp
  have hlt := hrW.lt
  have hWM : WM A0 WB (fun b => A0 + 3 ≤ b ∧ b < w2.heap.size) ws nl w2 := hV.wm (by omega) hrW ⟨hWB, hlt⟩ (fun b hb => ⟨by omega, hb.2⟩) (fun b h1 h2 => ⟨by omega, h2⟩)
  refine ⟨start_ti hrT (by omega), hWM.sm k24 (fun _ _ h => h), fun b hb h => by omega, fun b hb => ?_, r1.sm k04 (fun h => h), r2.sm k04 (fun h => h), own_at ho rfl, .inl rfl, .inr (.inl rfl), .inr (.inr rfl), s0.trans k04, ?_, hA⟩
  · have e1 := k24.size
    rcases hb with e | e | e <;> subst e
    · exact ⟨by omega, by omega, by omega, by omega⟩
    · exact ⟨by omega, by omega, by omega, by omega⟩
    · exact ⟨by omega, by omega, by omega, hL.2⟩
  · rw [hA]
    exact hC.sm (s0.trans k04) (fun _ h => h.elim)
set_option maxRecDepth 100000 in
set_option maxHeartbeats 12800000 in
theorem play_c (B0 : Nat) (vW vL : Value) (ws wsE : List (List Nat)) (nl : Nat) (vc : Value) (calls : List (List In × List Nat)) (TB tc N n : Nat) (s1 sE : MS) (tr : List (Nat × Nat)) (w : World) (hV : WV B0 vW vL ws nl w) (hC : CallsB w.heap.size vc calls w) (hTB : w.cell? ⟨TB, 0, none⟩ = some vc)
    (h0 : onF calls N startS = some s1) (hp : playF calls N n ws s1 [] = some (sE, wsE, tr)) (hn : n ≤ 16000) :
    Calls Try.prog 22 #[.agg #[vW, vL], .slice none 0 0, .slice (some ⟨TB, 0, none⟩) 1 tc] w fun e w' => ∃ vTr vA vOut vW' vL', e = .returned (.tuple #[.agg #[vTr, .slice none 0 0], vOut, .agg #[vW', vL']]) ∧
      w'.ownsRow w.heap.size 111 3 vTr tr.length (trC tr) ∧ w'.ownsRow w.heap.size 114 1 vOut 1 [vA] ∧ Ans w.heap.size (fun b => w.heap.size ≤ b) vA sE.ans w' ∧ WV w.heap.size vW' vL' wsE nl w' ∧ Sm (fun _ => False) w w' := by
  have HPOS := Lib.hid (show (∀ l ∈ ws, 0 < l.length) ∧ (ws.length < 1000 ∧ nl < 1000) from by
    obtain ⟨vrs, g1, g2, -⟩ := hV.ex
    refine ⟨fun l hl => ?_, hV.few⟩
    obtain ⟨i, hi, he⟩ := List.getElem_of_mem hl
    exact (g2 i l _ (by rw [List.getElem?_eq_getElem hi, he]) (List.getElem?_eq_getElem (by have := g1.1; omega))).2.2)
  obtain ⟨A0, hA0⟩ : ∃ A0, A0 = w.heap.size := ⟨_, rfl⟩
  obtain ⟨av, cv, hvc⟩ := hC.form
  subst hvc
  obtain ⟨w0, hw0⟩ : ∃ w0 : World, w0 = ((w.alloc (.cells #[vW, vL] 32)).alloc (.cells #[.slice none 0 0, .slice none 0 0] 66)).alloc (.cells #[.slice none 0 0, .slice none 0 0] 32) := ⟨_, rfl⟩
  have r0 : Row w0 A0 #[vW, vL] 32 := by rw [hw0, hA0]; exact ((Row.new w _ _).alloc _).alloc _
  have r1 : Row w0 (A0 + 1) #[.slice none 0 0, .slice none 0 0] 66 := by
    rw [hw0, hA0]
    have := (Row.new (w.alloc (.cells #[vW, vL] 32)) #[.slice none 0 0, .slice none 0 0] 66).alloc (.cells #[.slice none 0 0, .slice none 0 0] 32)
    simpa using this
  have r2 : Row w0 (A0 + 1 + 1) #[.slice none 0 0, .slice none 0 0] 32 := by
    rw [hw0, hA0]
    have := Row.new ((w.alloc (.cells #[vW, vL] 32)).alloc (.cells #[.slice none 0 0, .slice none 0 0] 66)) #[.slice none 0 0, .slice none 0 0] 32
    simpa using this
  have s0 : Sm (fun _ => False) w w0 := by rw [hw0]; exact (((Sm.refl _ _).alloc _).alloc _).alloc _
  have z0 : w0.heap.size = A0 + 3 := by rw [hw0, hA0]; simp
  have HCOPY := Lib.hid (copy_c B0 vW vL ws nl w0 (hV.sm s0 (fun _ _ h => h)))
  have HA0 := Lib.hid hA0
  have HW0 := Lib.hid hw0
  have HR := Lib.hid (show Row w0 (A0 + 1) #[.slice none 0 0, .slice none 0 0] 66 ∧ Row w0 (A0 + 1 + 1) #[.slice none 0 0, .slice none 0 0] 32 ∧ Sm (fun _ => False) w w0 ∧ w0.heap.size = A0 + 3 from ⟨r1, r2, s0, z0⟩)
  have HC := Lib.hid hC
  have HTB := Lib.hid hTB
  have d0 : w0.cell? ⟨A0, 0, none⟩ = some vW := r0.cell 0
  have d1 : w0.cell? ⟨A0, 1, none⟩ = some vL := r0.cell 1
  clear hw0 hA0 r0 r1 r2 s0 z0 hC hTB hV
  go_enter Try.func22, Try.ntmps22
  go_upto_region 1 with fail
  rw [← HW0.out, ← HA0.out]
  go_wp2_with fail
  refine HCOPY.out.mono ?_
  rintro e w1 ⟨vW1, vL1, rfl, hV1, k1⟩
  obtain ⟨vrs1, g1, -⟩ := hV1.ex
  obtain ⟨aw, cw, hvW1⟩ := own_form0 g1
  obtain ⟨al, cl, hvL1⟩ := own_form0 hV1.lists
  subst hvW1 hvL1
  obtain ⟨WB, hWB⟩ : ∃ WB, WB = w1.heap.size := ⟨_, rfl⟩
  have HZ := Lib.hid (Row.new w1 #[.slice none 0 0, .slice none 0 0] 32)
  have HZ2 := Lib.hid (HZ.out.setRow (c' := #[.slice aw ws.length cw, .slice al nl cl]))
  obtain ⟨w2, hw2⟩ : ∃ w2 : World, w2 = (w1.alloc (.cells #[.slice none 0 0, .slice none 0 0] 32)).setRow w1.heap.size #[.slice aw ws.length cw, .slice al nl cl] := ⟨_, rfl⟩
  have k2 : Sm (fun _ => False) w1 w2 := by
    rw [hw2]
    exact ⟨rfl, rfl, rfl, by simp [World.setRow], fun k hk _ => (setRow_other _ _ k _ (by omega)).trans (Below.heap_alloc _ _ _ hk)⟩
  have rW : Row w2 WB #[.slice aw ws.length cw, .slice al nl cl] 32 := by rw [hw2, hWB]; exact HZ2.out
  have HW2 := Lib.hid hw2
  have HWB := Lib.hid hWB
  have HV2 := Lib.hid (hV1.sm k2 (fun _ _ h => h))
  have HRW := Lib.hid rW
  have HK2 := Lib.hid (k1.trans k2)
  have HWS := Lib.hid (show w0.heap.size ≤ WB by rw [hWB]; exact k1.size)
  clear hw2 hWB rW k2 k1 hV1 d0 d1 g1
  go_upto_block 0 with (refine wpList_store_row rfl 32 (.tmp 9) (.tmp 21) rfl w1.heap.size #[.slice aw ws.length cw, .slice al nl cl] (by simp [Act.eval, Act.put]) (by simp [Act.eval, Act.put]) 32 _ HZ.out (by kernel_rfl) (by rfl) (by simp [Value.oneCell']) ?_)
  rw [← HW2.out, ← HWB.out]
  obtain ⟨ip, hip, hp0, hp1, hp2⟩ := info_parts info_ptr
  have HIP := Lib.hid (show Try.prog.info? 140 = some ip ∧ ip.zero = some (.pointer none) ∧ ip.size = 1 ∧ ip.bytes = 8 from ⟨hip, hp0, hp1, hp2⟩)
  clear hip hp0 hp1 hp2
  go_cut [10] from 11 (fun s10 wc => ∃ T L cL : Nat, s10 = .slice (some ⟨L, 0, none⟩) 1 cL ∧ Hid (PJ A0 WB (A0 + 1) (A0 + 1 + 1) T L (.slice av calls.length cv) calls w (fun b => b = A0 + 1 ∨ b = A0 + 1 + 1 ∨ b = L) (fun b => b = T) (fun b => A0 + 3 ≤ b ∧ b < w2.heap.size) startS ws nl wc))
  case first =>
    go_wp2_with fail
    go_loopw [10, 11] (fun s10 s11 wr => (s11 = .int .i64 0 ∧ s10 = .slice none 0 0 ∧ wr = w2) ∨ (s11 = .int .i64 1 ∧ ∃ T L cL : Nat, s10 = .slice (some ⟨L, 0, none⟩) 1 cL ∧ Hid (PJ A0 WB (A0 + 1) (A0 + 1 + 1) T L (.slice av calls.length cv) calls w (fun b => b = A0 + 1 ∨ b = A0 + 1 + 1 ∨ b = L) (fun b => b = T) (fun b => A0 + 3 ≤ b ∧ b < w2.heap.size) startS ws nl wr))) (fun s10 s11 wr => 1 - (intOf s11).toNat)
    case atStart => exact .inl ⟨rfl, rfl, rfl⟩
    case round =>
      rcases hrel with ⟨rfl, rfl, rfl⟩ | ⟨rfl, T, L, cL, rfl, HPJ⟩
      · have ctb : wr.cell? ⟨TB, 0, none⟩ = some (.slice av calls.length cv) := ((HR.out.2.2.1.trans HK2.out).cell (World.block_lt_of_cell? w _ HTB.out) (fun h => h)).trans HTB.out
        obtain ⟨T, hT⟩ : ∃ T, T = wr.heap.size := ⟨_, rfl⟩
        have HT := Lib.hid hT
        clear hT
        go_wp2_with (at_builtin; refine wpList_append_own_at _ rfl (.tmp 28) (.tmp 35) 139 rfl (wr.heap.size + 2) 140 ip (.pointer none) 1 8 Try.underlying139 HIP.out.1 HIP.out.2.1 HIP.out.2.2.1 HIP.out.2.2.2 rfl (by decide) _ 0 [] rfl (World.ownsRow_nil _ _ _ _) ⟨wr.heap.size + 1, 0, none⟩ 1 1 [.pointer (some ⟨wr.heap.size, 0, none⟩)] (by simp [Act.eval, Act.put]) rfl (fun j u hu => by
          have := new_cells (wr.alloc (.cells (thrC (.slice av calls.length cv) 0 0 (List.replicate 24 0) (.slice none 0 0) false) 143)) [.pointer (some ⟨wr.heap.size, 0, none⟩)] 140 j u hu
          simp only [World.size_alloc] at this
          exact this) (by simp [Value.oneCell']) (by unfold maxLen; omega) (by omega) (by simp) ?_)
        intro v4 w4 hown4 hg4 _ hat4
        obtain ⟨L, cL, hv4⟩ := own_form hown4 (by decide)
        subst hv4
        have HPJ := Lib.hid (start_pj HA0.out HR.out HK2.out (by have := HR.out.2.2.2; have := HWS.out; omega) HV2.out HRW.out HC.out rfl rfl hg4 hown4)
        clear hown4 hg4 hat4 ctb
        go_wp2_with fail
        go_roundw
        case rel => exact .inr ⟨rfl, _, L, cL, rfl, HPJ⟩
        case measure => simp only [intOf]; omega
      · go_wp2_with fail
        go_meet
        case rel => exact ⟨T, L, cL, rfl, HPJ⟩
  case rest =>
    obtain ⟨T, L, cL, rfl, HPJ⟩ := hcut
    have HH0 := Lib.hid h0
    clear HC HTB HCOPY HW0 HW2 HZ HZ2 HRW HV2 HK2 HWS h0
    obtain ⟨FW, hFW⟩ : ∃ FW : Nat → Prop, FW = fun b => A0 + 3 ≤ b ∧ b < w2.heap.size := ⟨_, rfl⟩
    rw [← hFW] at HPJ
    clear hFW
    go_upto_block 2 with fail
    go_cut [] from 11 (fun wc => ∃ F : Nat → Prop, Hid (PJ A0 WB (A0 + 1) (A0 + 1 + 1) T L (.slice av calls.length cv) calls w (fun b => b = A0 + 1 ∨ b = A0 + 1 + 1 ∨ b = L) F FW s1 ws nl wc))
    case first =>
      go_wp2_with fail
      go_loopw [12] (fun s12 wr => (s12 = .int .i64 0 ∧ Hid (PJ A0 WB (A0 + 1) (A0 + 1 + 1) T L (.slice av calls.length cv) calls w (fun b => b = A0 + 1 ∨ b = A0 + 1 + 1 ∨ b = L) (fun b => b = T) FW startS ws nl wr)) ∨ (s12 = .int .i64 1 ∧ ∃ F : Nat → Prop, Hid (PJ A0 WB (A0 + 1) (A0 + 1 + 1) T L (.slice av calls.length cv) calls w (fun b => b = A0 + 1 ∨ b = A0 + 1 + 1 ∨ b = L) F FW s1 ws nl wr))) (fun s12 wr => 1 - (intOf s12).toNat)
      case atStart => exact .inl ⟨rfl, HPJ⟩
      case round =>
        clear HPJ
        rcases hrel with ⟨rfl, HPJ⟩ | ⟨rfl, F, HPJ⟩
        · have cl0 : wr.cell? ⟨L, 0, none⟩ = some (.pointer (some ⟨T, 0, none⟩)) := HPJ.out.rL
          go_wp2_with fail
          refine (on_c A0 T _ calls _ startS s1 N _ wr (by have := HPJ.out.low; have := HPJ.out.sm.size; omega) HPJ.out.ti HPJ.out.calls (by decide) HH0.out).mono ?_
          rintro e5 w5 ⟨rfl, F5, hT5, k5, hF5⟩
          have HPJ5 := Lib.hid (HPJ.out.step hT5 (HPJ.out.wm.sm k5 (fun b hb h => HPJ.out.dis b h hb)) (k5.mono (fun b h => .inl h)) hF5)
          clear hT5 k5 hF5 cl0
          go_wp2_with fail
          go_roundw
          case rel => exact .inr ⟨rfl, F5, HPJ5⟩
          case measure => simp only [intOf]; omega
        · go_wp2_with fail
          go_meet
          case rel => exact ⟨F, HPJ⟩
    case rest =>
      clear HPJ
      obtain ⟨F, HPJ⟩ := hcut
      obtain ⟨PB, hPB⟩ : ∃ PB, PB = wc.heap.size := ⟨_, rfl⟩
      have HPB := Lib.hid hPB
      have HPK := Lib.hid (show PK A0 WB (A0 + 1) (A0 + 1 + 1) T L PB (.slice av calls.length cv) calls w F FW s1 ws nl [] (.slice none 0 0) (wc.alloc (.cells #[.slice none 0 0, .slice none 0 0] 66)) from by
        have hx := HPJ.out.xf
        refine ⟨HPJ.out.side ((Sm.refl (fun _ => False) wc).alloc _) (fun _ h => h.elim) (fun b hb => ?_) (.inl rfl) (.inr (.inl rfl)) (.inr (.inr (.inl rfl))), by rw [hPB]; exact Row.new wc _ _, World.ownsRow_nil _ _ _ _, ?_, fun b hb => by cases hb⟩
        · rcases hb with e | e | e | e | e
          · exact .inl (.inl e)
          · exact .inl (.inr (.inl e))
          · exact .inl (.inr (.inr e))
          · exact .inr ⟨by omega, by simp; omega⟩
          · cases e
        · rw [hPB]
          exact ⟨(hx _ HPJ.out.x1).2.2.2, (hx _ HPJ.out.x2).2.2.2, (hx _ HPJ.out.xL).2.2.2⟩)
      clear HPJ hPB
      go_upto_block 4 with fail
      rw [← HPB.out]
      obtain ⟨wp, hwp⟩ : ∃ wp : World, wp = wc.alloc (.cells #[.slice none 0 0, .slice none 0 0] 66) := ⟨_, rfl⟩
      rw [← hwp] at HPK ⊢
      clear hwp HPB
      go_cut [] from 14 (fun wx => wx = wp)
      case first =>
        go_wp2_with fail
        go_loopw [14] (fun s14 wr => s14 = .int .i64 0 ∧ wr = wp) (fun s14 wr => 0)
        case atStart => exact ⟨rfl, rfl⟩
        case round =>
          obtain ⟨rfl, rfl⟩ := hrel
          go_wp2_with fail
          go_meet
          case rel => rfl
      case rest =>
        subst hcut
        go_upto_block 6 with fail
        go_cut [] from 16 (fun wx => ∃ (F : Nat → Prop) (vT : Value), Hid (PK A0 WB (A0 + 1) (A0 + 1 + 1) T L PB (.slice av calls.length cv) calls w F FW sE wsE nl tr vT wx))
        case first =>
          obtain ⟨it, hit, ht0, ht1, ht2⟩ := info_parts info_turned
          have HIT := Lib.hid (show Try.prog.info? 111 = some it ∧ it.zero = some (.agg #[.int .i64 0, .int .u8 0, .int .i64 0]) ∧ it.size = 3 ∧ it.bytes = 24 from ⟨hit, ht0, ht1, ht2⟩)
          obtain ⟨Q, hQ⟩ : ∃ Q : World → Bool → Nat → Prop, ∀ wr lf m, Q wr lf m ↔ ∃ (F : Nat → Prop) (s' : MS) (ws' : List (List Nat)) (tr' : List (Nat × Nat)) (vT : Value), playF calls N m ws' s' tr' = some (sE, wsE, tr) ∧ tr'.length + m ≤ 16000 ∧ (lf = false → s'.over = true) ∧
            (s'.over = false → s'.call < calls.length ∧ s'.call < s'.ans.length) ∧ PK A0 WB (A0 + 1) (A0 + 1 + 1) T L PB (.slice av calls.length cv) calls w F FW s' ws' nl tr' vT wr := ⟨_, fun _ _ _ => Iff.rfl⟩
          have hov0 : true = false → s1.over = true := fun h => Bool.noConfusion h
          have hlen0 : ([] : List (Nat × Nat)).length + n ≤ 16000 := by simpa using hn
          have hq0 : Q wc true n := (hQ wc true n).2 ⟨F, s1, ws, [], .slice none 0 0, hp, hlen0, hov0, fun h => onF_inv N startS s1 HH0.out (by decide) h, HPK.out⟩
          have HQ := Lib.hid hQ
          clear hit ht0 ht1 ht2 hQ hp HPK HH0
          go_wp2_with fail
          go_loopw [16] (fun s16 wr => ∃ (lf : Bool) (m : Nat), s16 = .bool lf ∧ Q wr lf m) (fun s16 wr => mu (fun k => ∃ (lf : Bool) (m : Nat), s16 = .bool lf ∧ Q wr lf m ∧ k = m + (if lf then 1 else 0)))
          case atStart => exact ⟨true, n, rfl, hq0⟩
          case round =>
            clear hq0
            obtain ⟨lf, m0, rfl, hq⟩ := hrel
            obtain ⟨mm, hmm⟩ : ∃ mm, mm = mu (fun k => ∃ (lf' : Bool) (m : Nat), (Value.bool lf) = .bool lf' ∧ Q wr lf' m ∧ k = m + (if lf' then 1 else 0)) := ⟨_, rfl⟩
            have hmem := mu_mem (Q := fun k => ∃ (lf' : Bool) (m : Nat), (Value.bool lf) = .bool lf' ∧ Q wr lf' m ∧ k = m + (if lf' then 1 else 0)) ⟨lf, m0, rfl, hq, rfl⟩
            rw [← hmm] at hmem
            obtain ⟨lf', m, hlf, hqm, hmme⟩ := hmem
            cases hlf
            have HMM := Lib.hid hmm
            have HMME := Lib.hid hmme
            obtain ⟨F, s', ws', tr', vT, hpl, hlen, hov, hcl, hpk⟩ := (HQ.out wr lf m).1 hqm
            have hqm2 := Lib.hid hqm
            clear hmm hmme hq hqm
            cases lf with
            | false =>
              have hso := hov rfl
              have hfin : s' = sE ∧ ws' = wsE ∧ tr' = tr := by
                cases m with
                | zero => cases hpl
                | succ k =>
                  unfold playF at hpl
                  rw [if_pos hso] at hpl
                  simpa using hpl
              obtain ⟨rfl, rfl, rfl⟩ := hfin
              have HPK := Lib.hid hpk
              clear hpk hpl hlen hov hcl hso
              go_wp2_with fail
              go_meet
              case rel => exact ⟨F, vT, HPK⟩
            | true =>
              have HPK := Lib.hid hpk
              have HPL := Lib.hid hpl
              have HLEN := Lib.hid hlen
              have HCL := Lib.hid hcl
              clear hpk hpl hlen hcl hov
              have HMX := Lib.hid (show mm = m + 1 from HMME.out)
              clear HMME
              go_wp2_with fail
              go_loopw [16, 17] (fun s16 s17 wx => (s16 = .bool false ∧ s17 = .int .i64 0 ∧ wx = wr) ∨ (s17 = .int .i64 1 ∧ ∃ (lf2 : Bool) (m2 : Nat), s16 = .bool lf2 ∧ Q wx lf2 m2 ∧ m2 + (if lf2 then 1 else 0) < m + 1)) (fun s16 s17 wx => 1 - (intOf s17).toNat)
              case atStart => exact .inl ⟨rfl, rfl, rfl⟩
              case round =>
                rcases hrel with ⟨rfl, rfl, rfl⟩ | ⟨rfl, lf2, m2, rfl, hq2, hm2⟩
                · obtain ⟨aT, cT, hvT⟩ := own_form0 HPK.out.tr
                  subst hvT
                  have hpk := HPK.out
                  have cB : wr.cell? ⟨PB, 0, none⟩ = some (.slice aT tr'.length cT) := hpk.rB.cell 0
                  have cl0 : wr.cell? ⟨L, 0, none⟩ = some (.pointer (some ⟨T, 0, none⟩)) := hpk.pj.rL
                  obtain ⟨va, hth, -⟩ := hpk.pj.ti.ex
                  have c28 : wr.cell? ⟨T, 28, none⟩ = some (.bool s'.over) := hth.over
                  cases hmz : m with
                  | zero =>
                    have h9 := HPL.out
                    rw [hmz] at h9
                    cases h9
                  | succ k =>
                    have j1 : (tr'.length : Int) < 16384 := by have := HLEN.out; omega
                    by_cases hso : s'.over = true
                    · rw [hso] at c28
                      have HQN := Lib.hid (show Q wr false m from (HQ.out wr false m).2 ⟨F, s', ws', tr', _, HPL.out, HLEN.out, fun _ => hso, HCL.out, hpk⟩)
                      clear hpk hth
                      go_wp2_with fail
                      go_roundw
                      case rel => exact .inr ⟨rfl, false, m, rfl, HQN.out, by simp; omega⟩
                      case measure => simp only [intOf]; omega
                    · have hso2 : s'.over = false := by simpa using hso
                      rw [hso2] at c28
                      have hpl := HPL.out
                      rw [hmz] at hpl
                      unfold playF at hpl
                      rw [if_neg hso] at hpl
                      split at hpl
                      · cases hpl
                      · next s3 ws3 mk hops =>
                        split at hpl
                        · cases hpl
                        · next s4 hons =>
                          obtain ⟨hc1, hc2⟩ := HCL.out hso2
                          have hsd : Sm (fun _ => False) wr wr.drew := (Sm.refl _ _).drew
                          have HPKD := Lib.hid (hpk.ndrew hsd)
                          have HCALL := Lib.hid (show Calls Try.prog 52 #[.pointer (some ⟨T, 0, none⟩), .pointer (some ⟨WB, 0, none⟩)] wr.drew fun e w' => ∃ v, e = .returned v ∧ v = .agg #[.int .u8 (mk.1 : Int), .int .i64 (mk.2 : Int)] ∧ OpEnd A0 T WB (.slice av calls.length cv) F FW s4 ws3 nl wr.drew w' from
                            (op_c A0 T WB _ calls F FW s' s3 s4 ws' ws3 nl mk _ N wr.drew HPKD.out.pj.ti HPKD.out.pj.wm HPKD.out.pj.dis HPKD.out.pj.calls (by have := HPKD.out.pj.low; have := HPKD.out.pj.sm.size; omega) hc1 hc2 rfl hops hons).mono fun e w' h => ⟨_, h.1, rfl, h.2⟩)
                          have HS3 := Lib.hid (show onF calls N s3 = some s4 ∧ s3.call ≤ s3.ans.length from ⟨hons, by rw [(opS_call hops).1, (opS_call hops).2]; omega⟩)
                          have HPL2 := Lib.hid hpl
                          have HMZ := Lib.hid hmz
                          have HBD := Lib.hid (show tr'.length + 1 ≤ maxLen ∧ (tr'.length + 1) * 24 ≤ 140737488355328 from ⟨by have := HLEN.out; unfold maxLen; omega, by have := HLEN.out; omega⟩)
                          clear hpk hth hpl hops hons hc1 hc2 hsd hso hso2
                          go_wp2_with fail
                          go_region_law (first
                            | (refine step_fn rfl 52 #[.tmp 120, .tmp 9] #[140, 145] rfl Try.func52 (by kernel_rfl) rfl #[.pointer (some ⟨T, 0, none⟩), .pointer (some ⟨WB, 0, none⟩)] (by simp [Act.eval, Act.put]) (R := fun v x => v = .agg #[.int .u8 (mk.1 : Int), .int .i64 (mk.2 : Int)] ∧ OpEnd A0 T WB (.slice av calls.length cv) F FW s4 ws3 nl wr.drew x) HCALL.out ?_; rintro _ w2 ⟨rfl, hop2⟩; obtain ⟨rB2, tr2, hz2⟩ := pk_keep HPKD.out hop2; have t1 : w2.cell? ⟨PB, 0, none⟩ = some (.slice aT tr'.length cT) := rB2.cell 0; have t2 : (w2.alloc (.cells #[.int .i64 0, .int .u8 (mk.1 : Int), .int .i64 (mk.2 : Int)] 111)).cell? ⟨PB, 0, none⟩ = some (.slice aT tr'.length cT) := (rB2.alloc _).cell 0)
                            | (refine step_append_at rfl (.tmp 115) (.tmp 123) 64 rfl A0 111 it (.agg #[.int .i64 0, .int .u8 0, .int .i64 0]) 3 24 Try.underlying64 HIT.out.1 HIT.out.2.1 HIT.out.2.2.1 HIT.out.2.2.2 rfl (by decide) (.slice aT tr'.length cT) tr'.length (trC tr') (by simp [Act.eval, Act.put]) (tr2.alloc _) ⟨w2.heap.size, 0, none⟩ 1 1 [.int .i64 0, .int .u8 (mk.1 : Int), .int .i64 (mk.2 : Int)] (by simp [Act.eval, Act.put]) rfl (new_cells w2 [.int .i64 0, .int .u8 (mk.1 : Int), .int .i64 (mk.2 : Int)] 111) (by simp [Value.oneCell']) HBD.out.1 HBD.out.2 (by simp; omega) ?_; intro v5 w5 hown5 hg5 hat5; obtain ⟨c5, f5⟩ := pk_keep5 HPKD.out hop2 hg5; obtain ⟨a5, c5', hv5⟩ := own_form0 hown5; subst hv5))
                          all_goals
                            have HQN := Lib.hid (show Q (w5.setCell ⟨PB, 0, none⟩ (.slice a5 (tr'.length + 1) c5')) true k from by
                              obtain ⟨F5, hpk5⟩ := pk_step HPKD.out hop2 hg5 hown5 hat5
                              exact (HQ.out _ true k).2 ⟨F5, s4, ws3, tr' ++ [mk], _, HPL2.out, by have := HLEN.out; have := HMZ.out; simp; omega, fun h => Bool.noConfusion h, fun h => onF_inv N s3 s4 HS3.out.1 HS3.out.2 h, hpk5⟩)
                            clear hop2 rB2 tr2 hz2 t1 t2 hown5 hg5 hat5 c5 f5 cB cl0 c28
                            go_wp2_with fail
                            go_roundw
                            case rel => exact .inr ⟨rfl, true, k, rfl, HQN.out, by have h9 := HMZ.out; simp; try omega⟩
                            case measure => simp only [intOf]; omega
                · go_wp2_with fail
                  go_roundw
                  case rel => exact ⟨lf2, m2, rfl, hq2⟩
                  case measure =>
                    rw [← HMM.out, HMX.out]
                    exact Nat.lt_of_le_of_lt (mu_le ⟨lf2, m2, rfl, hq2, rfl⟩) hm2
        case rest =>
          obtain ⟨F, vT, HPK⟩ := hcut
          obtain ⟨hso, hlens⟩ := playF_end _ _ _ _ _ _ _ hp
          obtain ⟨ia, hia, ht0, ht1, ht2⟩ := info_parts info_answ
          have HIA := Lib.hid (show Try.prog.info? 114 = some ia ∧ ia.zero = some (.slice none 0 0) ∧ ia.size = 1 ∧ ia.bytes = 24 from ⟨hia, ht0, ht1, ht2⟩)
          have HLENS := Lib.hid hlens
          have HSO := Lib.hid hso
          clear hia ht0 ht1 ht2 hp HH0 hlens
          go_wp2_with fail
          go_loopw [18, 19] (fun s18 s19 wr => (s18 = .slice none 0 0 ∧ s19 = .int .i64 0 ∧ wr = wc) ∨ (s19 = .int .i64 1 ∧ ∃ (g c : Nat) (vA : Value), s18 = .slice (some ⟨g, 0, none⟩) 1 c ∧ Hid (PK A0 WB (A0 + 1) (A0 + 1 + 1) T L PB (.slice av calls.length cv) calls w F FW sE wsE nl tr vT wr ∧ wr.ownsRow A0 114 1 (.slice (some ⟨g, 0, none⟩) 1 c) 1 [vA] ∧ wr.cell? ⟨T, 27, none⟩ = some vA))) (fun s18 s19 wr => 1 - (intOf s19).toNat)
          case atStart => exact .inl ⟨rfl, rfl, rfl⟩
          case round =>
            rcases hrel with ⟨rfl, rfl, rfl⟩ | ⟨rfl, g, c, vA, rfl, HEND⟩
            · have hpk := HPK.out
              have cl0 : wr.cell? ⟨L, 0, none⟩ = some (.pointer (some ⟨T, 0, none⟩)) := hpk.pj.rL
              obtain ⟨va, hth, han⟩ := hpk.pj.ti.ex
              have c28 : wr.cell? ⟨T, 28, none⟩ = some (.bool true) := by rw [hth.over, hso]
              have c27 : wr.cell? ⟨T, 27, none⟩ = some va := hth.ans
              obtain ⟨vts, -, hva, -⟩ := han.ex
              obtain ⟨a7, c7, hva7⟩ := own_form0 hva
              subst hva7
              have HZA := Lib.hid (show A0 ≤ wr.heap.size by have := hpk.pj.low; have := hpk.pj.sm.size; omega)
              have HC27 := Lib.hid c27
              clear hpk hth han hva
              go_wp2_with (at_builtin; refine wpList_append_own_at _ rfl (.tmp 146) (.tmp 154) 69 rfl A0 114 ia (.slice none 0 0) 1 24 Try.underlying69 HIA.out.1 HIA.out.2.1 HIA.out.2.2.1 HIA.out.2.2.2 rfl (by decide) _ 0 [] rfl (World.ownsRow_nil _ _ _ _) ⟨wr.heap.size, 0, none⟩ 1 1 [.slice a7 sE.ans.length c7] (by simp [Act.eval, Act.put]) rfl (new_cells wr [.slice a7 sE.ans.length c7] 114) (by simp [Value.oneCell']) (by unfold maxLen; omega) (by omega) (by have := HZA.out; simp; omega) ?_)
              intro v4 w4 hown4 hg4 _ hat4
              obtain ⟨g4, c4, hv4⟩ := own_form hown4 (by decide)
              subst hv4
              have k4 : Sm (fun _ => False) wr w4 := ((Sm.refl _ _).alloc _).trans (sm_grown hg4 (fun b h => by cases h))
              have HEND := Lib.hid (show _ ∧ _ ∧ _ from ⟨HPK.out.ndrew k4, hown4, (k4.cell (World.block_lt_of_cell? wr _ HC27.out) (fun h => h)).trans HC27.out⟩)
              clear hown4 hg4 hat4 k4 cl0 c28 c27
              go_wp2_with fail
              go_roundw
              case rel => exact .inr ⟨rfl, g4, c4, _, rfl, HEND⟩
              case measure => simp only [intOf]; omega
            · clear HPK
              obtain ⟨hpk, hown, h27⟩ := HEND.out
              obtain ⟨v1, v2, vrs, rW, g1, -, -, -, g5, -⟩ := hpk.pj.wm.ex
              obtain ⟨aT, cT, hvT⟩ := own_form0 hpk.tr
              subst hvT
              obtain ⟨b1, c1, hv1⟩ := own_form0 g1
              obtain ⟨b2, c2, hv2⟩ := own_form0 g5
              subst hv1 hv2
              have cB0 : wr.cell? ⟨PB, 0, none⟩ = some (.slice aT tr.length cT) := hpk.rB.cell 0
              have cB1 : wr.cell? ⟨PB, 1, none⟩ = some (.slice none 0 0) := hpk.rB.cell 1
              have cW0 : wr.cell? ⟨WB, 0, none⟩ = some (.slice b1 wsE.length c1) := rW.cell 0
              have cW1 : wr.cell? ⟨WB, 1, none⟩ = some (.slice b2 nl c2) := rW.cell 1
              have p10 : wr.cell? ⟨A0 + 1, 0, none⟩ = some (.slice none 0 0) := hpk.pj.r1.cell 0
              have p11 : wr.cell? ⟨A0 + 1, 1, none⟩ = some (.slice none 0 0) := hpk.pj.r1.cell 1
              have f10 : wr.frozen? ⟨A0 + 1, 0, none⟩ = false := hpk.pj.r1.free 0
              have f11 : wr.frozen? ⟨A0 + 1, 1, none⟩ = false := hpk.pj.r1.free 1
              have p20 : wr.cell? ⟨A0 + 1 + 1, 0, none⟩ = some (.slice none 0 0) := hpk.pj.r2.cell 0
              have p21 : wr.cell? ⟨A0 + 1 + 1, 1, none⟩ = some (.slice none 0 0) := hpk.pj.r2.cell 1
              have f20 : wr.frozen? ⟨A0 + 1 + 1, 0, none⟩ = false := hpk.pj.r2.free 0
              have f21 : wr.frozen? ⟨A0 + 1 + 1, 1, none⟩ = false := hpk.pj.r2.free 1
              have hWX : ¬ WB = A0 + 1 ∧ ¬ WB = A0 + 1 + 1 := ⟨fun e => (hpk.pj.xf (A0 + 1) (.inl rfl)).2.1 (e ▸ hpk.pj.wm.mem), fun e => (hpk.pj.xf (A0 + 1 + 1) (.inr (.inl rfl))).2.1 (e ▸ hpk.pj.wm.mem)⟩
              obtain ⟨e1, e2⟩ := hWX
              have e3 : ¬ PB = A0 + 1 := by have := hpk.nb; omega
              have e4 : ¬ PB = A0 + 1 + 1 := by have := hpk.nb; omega
              obtain ⟨wA, hwA⟩ : ∃ wA, wA = ((wr.setCell ⟨A0 + 1, 0, none⟩ (.slice aT tr.length cT)).setCell ⟨A0 + 1, 1, none⟩ (.slice none 0 0)) := ⟨_, rfl⟩
              have kA : Sm (fun b => b = A0 + 1) wr wA := by rw [hwA]; exact (Sm.setCell (F := fun b => b = A0 + 1) (p := ⟨A0 + 1, 1, none⟩) (Sm.setCell (F := fun b => b = A0 + 1) (p := ⟨A0 + 1, 0, none⟩) (Sm.refl _ _) rfl _) rfl _)
              have hk1 : wA.drew.cell? ⟨PB, 0, none⟩ = some (.slice aT tr.length cT) ∧ wA.drew.cell? ⟨PB, 1, none⟩ = some (.slice none 0 0) ∧ wA.drew.cell? ⟨WB, 0, none⟩ = some (.slice b1 wsE.length c1) ∧ wA.drew.cell? ⟨WB, 1, none⟩ = some (.slice b2 nl c2) :=
                ⟨(kA.cell (World.block_lt_of_cell? wr _ cB0) e3).trans cB0, (kA.cell (World.block_lt_of_cell? wr _ cB1) e3).trans cB1, (kA.cell (World.block_lt_of_cell? wr _ cW0) e1).trans cW0, (kA.cell (World.block_lt_of_cell? wr _ cW1) e1).trans cW1⟩
              have hr1A : Row wA (A0 + 1) #[.slice aT tr.length cT, .slice none 0 0] 66 := by
                rw [hwA]
                exact (hpk.pj.r1.set 0 _).set 1 _
              have hr2A : Row wA (A0 + 1 + 1) #[.slice none 0 0, .slice none 0 0] 32 := hpk.pj.r2.sm kA (by omega)
              have q20 : wA.drew.cell? ⟨A0 + 1 + 1, 0, none⟩ = some (.slice none 0 0) := hr2A.cell 0
              have q21 : wA.drew.cell? ⟨A0 + 1 + 1, 1, none⟩ = some (.slice none 0 0) := hr2A.cell 1
              have g20 : wA.drew.frozen? ⟨A0 + 1 + 1, 0, none⟩ = false := hr2A.free 0
              have g21 : wA.drew.frozen? ⟨A0 + 1 + 1, 1, none⟩ = false := hr2A.free 1
              obtain ⟨wE, hwE⟩ : ∃ wE, wE = (wA.setCell ⟨A0 + 1 + 1, 0, none⟩ (.slice b1 wsE.length c1)).setCell ⟨A0 + 1 + 1, 1, none⟩ (.slice b2 nl c2) := ⟨_, rfl⟩
              have kE : Sm (fun b => b = A0 + 1 + 1) wA wE := by rw [hwE]; exact Sm.setCell (F := fun b => b = A0 + 1 + 1) (p := ⟨A0 + 1 + 1, 1, none⟩) (Sm.setCell (F := fun b => b = A0 + 1 + 1) (p := ⟨A0 + 1 + 1, 0, none⟩) (Sm.refl _ _) rfl _) rfl _
              have hk2 : wE.drew.cell? ⟨PB, 0, none⟩ = some (.slice aT tr.length cT) ∧ wE.drew.cell? ⟨PB, 1, none⟩ = some (.slice none 0 0) ∧ wE.drew.cell? ⟨WB, 0, none⟩ = some (.slice b1 wsE.length c1) ∧ wE.drew.cell? ⟨WB, 1, none⟩ = some (.slice b2 nl c2) :=
                ⟨(kE.cell (World.block_lt_of_cell? wA _ hk1.1) e4).trans hk1.1, (kE.cell (World.block_lt_of_cell? wA _ hk1.2.1) e4).trans hk1.2.1, (kE.cell (World.block_lt_of_cell? wA _ hk1.2.2.1) e2).trans hk1.2.2.1, (kE.cell (World.block_lt_of_cell? wA _ hk1.2.2.2) e2).trans hk1.2.2.2⟩
              have HWC := Lib.hid hk2
              have hr1E : Row wE (A0 + 1) #[.slice aT tr.length cT, .slice none 0 0] 66 := hr1A.sm kE (by omega)
              have hr2E : Row wE (A0 + 1 + 1) #[.slice b1 wsE.length c1, .slice b2 nl c2] 32 := by
                rw [hwE]
                exact (hr2A.set 0 _).set 1 _
              rw [hwA] at hwE
              rw [hwE] at hk2
              rw [hwA] at hk1 q20 q21 g20 g21
              have HPE := Lib.hid hpk
              have HON := Lib.hid hown
              have H27 := Lib.hid h27
              have HE := Lib.hid (show _ ∧ _ ∧ _ ∧ _ from ⟨hr1E, hr2E, kA, kE⟩)
              have HWE := Lib.hid hwE
              clear hpk hown h27 rW g1 g5 kA kE hr1A hr2A hr1E hr2E hwA hwE
              go_wp2_with fail
              go_region_held3 (fun w' => w'.cell? ⟨PB, 0, none⟩ = some (.slice aT tr.length cT) ∧ w'.cell? ⟨PB, 1, none⟩ = some (.slice none 0 0) ∧ w'.cell? ⟨WB, 0, none⟩ = some (.slice b1 wsE.length c1) ∧ w'.cell? ⟨WB, 1, none⟩ = some (.slice b2 nl c2)) (first | go_keep | exact hk1 | exact hk2 | assumption) (fail)
              rw [← HWE.out]
              have HPOST := Lib.hid (show wE.drew.ownsRow w.heap.size 111 3 (.slice aT tr.length cT) tr.length (trC tr) ∧ wE.drew.ownsRow w.heap.size 114 1 (.slice (some ⟨g, 0, none⟩) 1 c) 1 [vA] ∧ Ans w.heap.size (fun b => w.heap.size ≤ b) vA sE.ans wE.drew ∧ WV w.heap.size (.slice b1 wsE.length c1) (.slice b2 nl c2) wsE nl wE.drew ∧ Sm (fun _ => False) w wE.drew from by
                have hpk := HPE.out
                have kAE : Sm (fun b => b = A0 + 1 ∨ b = A0 + 1 + 1) wr wE.drew := ((HE.out.2.2.1.mono (fun b h => .inl h)).trans (HE.out.2.2.2.mono (fun b h => .inr h))).drew
                have hxF : ∀ b, F b → ¬ (b = A0 + 1 ∨ b = A0 + 1 + 1) := fun b hb e => e.elim (fun e => (hpk.pj.xf (A0 + 1) (.inl rfl)).1 (e ▸ hb)) (fun e => (hpk.pj.xf (A0 + 1 + 1) (.inr (.inl rfl))).1 (e ▸ hb))
                have hxW : ∀ b, FW b → ¬ (b = A0 + 1 ∨ b = A0 + 1 + 1) := fun b hb e => e.elim (fun e => (hpk.pj.xf (A0 + 1) (.inl rfl)).2.1 (e ▸ hb)) (fun e => (hpk.pj.xf (A0 + 1 + 1) (.inr (.inl rfl))).2.1 (e ▸ hb))
                have hti := hpk.pj.ti.sm kAE hxF
                have hwm := hpk.pj.wm.sm kAE hxW
                obtain ⟨va, hth, han⟩ := hti.ex
                obtain ⟨va0, hth0, -⟩ := hpk.pj.ti.ex
                have hva : va = vA := by
                  have e1 := hth.ans
                  have e2 := (kAE.cell (World.block_lt_of_cell? wr _ H27.out) (hxF T hpk.pj.ti.mem)).trans H27.out
                  rw [e1] at e2
                  exact Option.some.inj e2
                subst hva
                rw [← HA0.out]
                refine ⟨own_smF hpk.tr kAE (fun b hb e => ?_), own_smF HON.out kAE (fun b hb e => ?_), han.weak (fun b hb => (hti.blk b hb).1), hwm.wv (Sm.refl _ _) (fun l hl => ?_) ?_ HWC.out.2.2.1 HWC.out.2.2.2, ?_⟩
                · have h1 := hpk.nv b hb
                  have h2 := hpk.nb
                  omega
                · rcases e with e | e
                  · exact own_ne HON.out hpk.pj.r1 (by decide) (e ▸ hb)
                  · exact own_ne HON.out hpk.pj.r2 (by decide) (e ▸ hb)
                · have h1 : l.length ∈ wsE.map List.length := List.mem_map_of_mem hl
                  rw [HLENS.out] at h1
                  obtain ⟨l', h2, h3⟩ := List.mem_map.1 h1
                  rw [← h3]
                  exact HPOS.out.1 l' h2
                · have h1 : wsE.length = ws.length := by
                    have := congrArg List.length HLENS.out
                    simpa using this
                  rw [h1]
                  exact HPOS.out.2
                · refine ((hpk.pj.sm.mono (F' := fun b => b = A0 + 1 ∨ b = A0 + 1 + 1) (fun _ h => h.elim)).trans kAE).new (fun b hb => ?_)
                  have := hpk.pj.low
                  omega)
              have HRR := Lib.hid (show Row wE.drew (A0 + 1) #[.slice aT tr.length cT, .slice none 0 0] 66 ∧ Row wE.drew (A0 + 1 + 1) #[.slice b1 wsE.length c1, .slice b2 nl c2] 32 from ⟨HE.out.1, HE.out.2.1⟩)
              clear hk1 hk2 q20 q21 g20 g21
              go_wp2_with fail
              refine bodyPost_ret (results_play rfl _ _ (A0 + 1) (A0 + 1 + 1) _ _ _ _ rfl rfl HRR.out.1 HRR.out.2) rfl ?_
              exact ⟨_, _, _, _, _, rfl, HPOST.out.1, HPOST.out.2.1, HPOST.out.2.2.1, HPOST.out.2.2.2.1, HPOST.out.2.2.2.2⟩
end Go.Proofs.Ytokoniaoknnggaa
