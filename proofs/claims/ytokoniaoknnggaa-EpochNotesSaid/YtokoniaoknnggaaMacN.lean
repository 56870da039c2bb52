/- The reference machine: thread.op is opS and onF. -/
import Derived.Test.YtokoniaoknnggaaMacM
namespace Go.Proofs.Ytokoniaoknnggaa
open Go.RowKit
set_option linter.unusedVariables false
set_option linter.unusedSimpArgs false

theorem op_on {B T WB : Nat} {vc : Value} {F FW : Nat → Prop} {s1 s2 : MS} {ws1 : List (List Nat)} {nl : Nat} {calls : List (List In × List Nat)} {n : Nat} {w w2 : World} (hT2 : TI B T vc F s1 w2) (hW2 : WM B WB FW ws1 nl w2) (hz : w.heap.size < w2.heap.size) (k2 : Sm (fun b => F b ∨ FW b) w w2) (hdis : ∀ b, F b → ¬ FW b)
    (hC : CallsB B vc calls w2) (hB : B ≤ w2.heap.size) (hle : s1.call ≤ s1.ans.length) (hrun : onF calls n s1 = some s2) :
    Calls Try.prog 51 #[.pointer (some ⟨T, 0, none⟩), .pointer (some ⟨WB, 0, none⟩)] w2 fun e w' => e = .returned (.tuple #[]) ∧ OpEnd B T WB vc F FW s2 ws1 nl w w' ∧ Sm F w2 w' :=
  (on_c B T vc calls F s1 s2 n _ w2 hB hT2 hC hle hrun).mono fun e w' h => by
    obtain ⟨h1, F', h2, h3, h4⟩ := h
    exact ⟨h1, ⟨F', h2, hW2.sm h3 (fun b hb h => hdis b h hb), k2.trans (h3.mono (fun b h => .inl h)), fun b hb => (h4 b hb).imp_right (fun h => by omega)⟩, h3⟩
theorem op_fin {B T WB : Nat} {vc : Value} {F FW : Nat → Prop} {s2 : MS} {ws1 : List (List Nat)} {nl : Nat} {w w' : World} (hF : ∀ b, F b → b < w.heap.size) (hW : ∀ b, FW b → b < w.heap.size) (h : ∃ w3, OpEnd B T WB vc F FW s2 ws1 nl w w3 ∧ Sm (fun b => b = w.heap.size) w3 w') : OpEnd B T WB vc F FW s2 ws1 nl w w' := by
  obtain ⟨w3, h1, h2⟩ := h
  refine h1.last hF hW h2 ?_
  obtain ⟨_, _, _, h, _⟩ := h1
  exact h.size
theorem op_c (B T WB : Nat) (vc : Value) (calls : List (List In × List Nat)) (F FW : Nat → Prop) (s s1 s2 : MS) (ws ws1 : List (List Nat)) (nl : Nat) (mk : Nat × Nat) (x : In) (n : Nat) (w : World) (hT : TI B T vc F s w) (hW : WM B WB FW ws nl w) (hdis : ∀ b, F b → ¬ FW b) (hC : CallsB B vc calls w) (hB : B ≤ w.heap.size)
    (hcl : s.call < calls.length) (hlt : s.call < s.ans.length) (hx : instrAt calls s = x) (hop : opS x ws s = some (s1, ws1, mk)) (hrun : onF calls n s1 = some s2) :
    Calls Try.prog 52 #[.pointer (some ⟨T, 0, none⟩), .pointer (some ⟨WB, 0, none⟩)] w fun e w' => e = .returned (.agg #[.int .u8 (mk.1 : Int), .int .i64 (mk.2 : Int)]) ∧ OpEnd B T WB vc F FW s2 ws1 nl w w' := by
  obtain ⟨va, hth, han⟩ := hT.ex
  obtain ⟨vW, vL, vrs, h1, h2, h3, h4, h5, h6, h7⟩ := hW.ex
  have hci : calls[s.call]? = some (calls[s.call]'hcl) := List.getElem?_eq_getElem _
  have hcode := hC.code hci
  have hx2 : ((calls[s.call]'hcl).1)[s.at_]?.getD finishI = x := by
    rw [← hx]
    unfold instrAt
    rw [hci]
    rfl
  have hFl : ∀ b, F b → b < w.heap.size := fun b hb => (hT.blk b hb).2
  have hWl : ∀ b, FW b → b < w.heap.size := fun b hb => (hW.blk b hb).2
  have hTW : ¬ FW T := hdis T hT.mem
  unfold opS at hop
  split at hop
  · next hg =>
    obtain ⟨ha, hb, hc, he, hat⟩ := hg
    split at hop
    · cases hop
    · next l hl =>
      split at hop
      · cases hop
      · next v hv =>
        have ho : x.o < ws.length := by
          rcases Nat.lt_or_ge x.o ws.length with h | h
          · exact h
          · rw [List.getElem?_eq_none h] at hl
            cases hl
        have hpl : s.r[x.b]?.getD 0 + x.n < l.length := by
          rcases Nat.lt_or_ge (s.r[x.b]?.getD 0 + x.n) l.length with h | h
          · exact h
          · rw [List.getElem?_eq_none h] at hv
            cases hv
        obtain ⟨WR, cW, hvW⟩ := own_form h2 (by omega)
        subst hvW
        have hvl : vrs.length = ws.length := by simpa using h2.1
        obtain ⟨vr, hvr⟩ : ∃ vr, vrs[x.o]? = some vr := ⟨_, List.getElem?_eq_getElem (by omega)⟩
        obtain ⟨f1, f2, f3⟩ := h3 _ _ _ hl hvr
        obtain ⟨b, cb, hbv⟩ := own_form f1 (by omega)
        subst hbv
        obtain ⟨cells, hcells⟩ : ∃ c, Row w b c 38 := own_type2 f1 b rfl
        have hWR : w.cell? ⟨WR, x.o, none⟩ = some (.slice (some ⟨b, 0, none⟩) l.length cb) := by
          have h9 := h2.cells rfl x.o _ hvr
          have e : ((⟨WR, 0, none⟩ : Addr).add x.o) = ⟨WR, x.o, none⟩ := by
            unfold Addr.add
            split <;> simp_all
          rwa [e] at h9
        have hvc := own_get f1 hcells hv
        have hFb : FW b := f3 b rfl
        have hTb : T ≠ b := fun e => hTW (e ▸ hFb)
        have hnFb : ¬ F b := fun h => hdis b h hFb
        have hmono : ∀ w2 : World, Sm (fun b' => b' = T ∨ b' = b) w w2 → Sm (fun b => F b ∨ FW b) w w2 := fun w2 k => k.mono (fun b' h => h.elim (fun e => .inl (e ▸ hT.mem)) (fun e => .inr (e ▸ hFb)))
        have hlow : ∀ b', F b' ∨ FW b' → B ≤ b' := fun b' h => h.elim (fun h => (hT.blk b' h).1) (fun h => (hW.blk b' h).1)
        have hgoon : ∀ (w2 : World) (at' : Nat) (r' : List Nat) (ws' : List (List Nat)), w.heap.size < w2.heap.size → (∀ v ∈ r', v < 18446744073709551616) → Thr T vc s.call at' r' va s.over w2 → Sm (fun b' => b' = T ∨ b' = b) w w2 → WM B WB FW ws' nl w2 → onF calls n { s with at_ := at', r := r' } = some s2 →
            Calls Try.prog 51 #[.pointer (some ⟨T, 0, none⟩), .pointer (some ⟨WB, 0, none⟩)] w2 fun e w' => e = .returned (.tuple #[]) ∧ OpEnd B T WB vc F FW s2 ws' nl w w' ∧ Sm F w2 w' := fun w2 at' r' ws' hz hr' hth' k2 hW2 hrun' =>
          op_on (hT.word hnFb at' r' hr' han hth' k2 ⟨_, hth.row⟩) hW2 hz (hmono w2 k2) hdis (hC.sm (hmono w2 k2) hlow) (by omega) (by show s.call ≤ s.ans.length; omega) hrun'
        have hWsame : ∀ w2 : World, Sm (fun b' => b' = T ∨ b' = b) w w2 → Row w2 b cells 38 → WM B WB FW ws nl w2 := fun w2 k2 hr2 => by
          have hput := hW.put (k := s.r[x.b]?.getD 0 + x.n) (v := v) h1 h2 h3 h4 h5 h6 h7 hl hvr hcells hTW k2 (by
            have : cells.setIfInBounds (s.r[x.b]?.getD 0 + x.n) (.int .u64 (v : Int)) = cells := by
              apply Array.ext_getElem?
              intro i
              rw [Array.getElem?_setIfInBounds]
              split
              · next e =>
                subst e
                have := (Array.getElem?_eq_some_iff.1 hvc).1
                simp only [this, if_true]
                exact hvc.symm
              · rfl
            rw [this]
            exact hr2)
          have e1 : l.set (s.r[x.b]?.getD 0 + x.n) v = l := by
            apply List.ext_getElem?
            intro i
            rw [List.getElem?_set]
            split
            · next e =>
              subst e
              rw [hv]
            · rfl
          have e2 : ws.set x.o l = ws := by
            apply List.ext_getElem?
            intro i
            rw [List.getElem?_set]
            split
            · next e =>
              subst e
              rw [hl]
            · rfl
          rw [e1, e2] at hput
          exact hput
        split at hop
        · next hd =>
          split at hop
          · next hv64 =>
            simp only [Option.some.injEq, Prod.mk.injEq] at hop
            obtain ⟨rfl, rfl, rfl⟩ := hop
            exact (op_load T vc s.call s.at_ s.r va s.over WB WR ws.length cW vL b l.length cb cells _ v _ x hx2 hd ha hb rfl hpl f2 (by omega) w hth hcode h1 hWR ho hW.few hcells hvc hTb F hFl (OpEnd B T WB vc F FW s2 ws nl w) (fun w2 hz hth2 hr2 k2 =>
              hgoon w2 _ _ ws hz (regs_set hT.regs _ _ hv64) hth2 k2 (hWsame w2 k2 hr2) hrun)).mono fun e w' h => ⟨h.1, op_fin hFl hWl h.2⟩
          · cases hop
        · next hd =>
          simp only [Option.some.injEq, Prod.mk.injEq] at hop
          obtain ⟨rfl, rfl, rfl⟩ := hop
          exact (op_store T vc s.call s.at_ s.r va s.over WB WR ws.length cW vL b l.length cb cells _ v _ x hx2 hd ha hb rfl hpl f2 (by omega) w hth hcode h1 hWR ho hW.few hcells hvc hTb F hFl (OpEnd B T WB vc F FW s2 (ws.set x.o (l.set (s.r[x.b]?.getD 0 + x.n) (s.r[x.a]?.getD 0))) nl w) (fun w2 hz hth2 hr2 k2 =>
            hgoon w2 _ _ _ hz hT.regs hth2 k2 (hW.put h1 h2 h3 h4 h5 h6 h7 hl hvr hcells hTW k2 hr2) hrun)).mono fun e w' h => ⟨h.1, op_fin hFl hWl h.2⟩
        · next hd =>
          split at hop
          · next hcas =>
            simp only [Option.some.injEq, Prod.mk.injEq] at hop
            obtain ⟨rfl, rfl, rfl⟩ := hop
            exact (op_hit T vc s.call s.at_ s.r va s.over WB WR ws.length cW vL b l.length cb cells _ v _ x hx2 hd ha hb hc he hcas rfl hpl f2 (by omega) w hth hcode h1 hWR ho hW.few hcells hvc hTb F hFl (OpEnd B T WB vc F FW s2 (ws.set x.o (l.set (s.r[x.b]?.getD 0 + x.n) (s.r[x.e]?.getD 0))) nl w) (fun w2 hz hth2 hr2 k2 =>
              hgoon w2 _ _ _ hz (regs_set hT.regs _ _ (by decide)) hth2 k2 (hW.put h1 h2 h3 h4 h5 h6 h7 hl hvr hcells hTW k2 hr2) hrun)).mono fun e w' h => ⟨h.1, op_fin hFl hWl h.2⟩
          · next hcas =>
            simp only [Option.some.injEq, Prod.mk.injEq] at hop
            obtain ⟨rfl, rfl, rfl⟩ := hop
            exact (op_miss T vc s.call s.at_ s.r va s.over WB WR ws.length cW vL b l.length cb cells _ v _ x hx2 hd ha hb hc he hcas rfl hpl f2 (by omega) w hth hcode h1 hWR ho hW.few hcells hvc hTb F hFl (OpEnd B T WB vc F FW s2 ws nl w) (fun w2 hz hth2 hr2 k2 =>
              hgoon w2 _ _ ws hz (regs_set hT.regs _ _ (by decide)) hth2 k2 (hWsame w2 k2 hr2) hrun)).mono fun e w' h => ⟨h.1, op_fin hFl hWl h.2⟩
        · cases hop
  · cases hop
end Go.Proofs.Ytokoniaoknnggaa
