/- The reference machine: Play of one thread, to its end. -/
import Derived.Test.YtokoniaoknnggaaMacO
namespace Go.Proofs.Ytokoniaoknnggaa
open Go.RowKit
set_option linter.unusedVariables false
set_option linter.unusedSimpArgs false

def startS : MS := ⟨0, 0, List.replicate 24 0, [], false⟩
/-- A thread by itself, to its end. -/
def playF (calls : List (List In × List Nat)) (N : Nat) : Nat → List (List Nat) → MS → List (Nat × Nat) → Option (MS × List (List Nat) × List (Nat × Nat))
  | 0, _, _, _ => none
  | n + 1, ws, s, tr =>
    if s.over = true then some (s, ws, tr)
    else match opS (instrAt calls s) ws s with
      | none => none
      | some (s1, ws1, mk) => match onF calls N s1 with
        | none => none
        | some s2 => playF calls N n ws1 s2 (tr ++ [mk])
theorem onF_inv {calls : List (List In × List Nat)} : ∀ (n : Nat) (s s' : MS), onF calls n s = some s' → s.call ≤ s.ans.length → s'.over = false → s'.call < calls.length ∧ s'.call < s'.ans.length
  | 0, s, s', h, _, _ => by cases h
  | n + 1, s, s', h, hle, hov => by
    unfold onF at h
    split at h
    · next e =>
      cases h
      rw [e] at hov
      cases hov
    · split at h
      · cases h
        cases hov
      · next hcl =>
        split at h
        · cases h
          exact ⟨by rw [begun_call]; omega, begun_lt s hle⟩
        · split at h
          · refine onF_inv n _ _ h ?_ hov
            show (begun s).call + 1 ≤ ((begun s).ans.set _ _).length
            rw [List.length_set]
            exact begun_lt s hle
          · split at h
            · next s2 hs2 =>
              refine onF_inv n _ _ h ?_ hov
              rw [(ownS_call hs2).1, (ownS_call hs2).2]
              exact Nat.le_of_lt (begun_lt s hle)
            · cases h
/-- A trace's cells, of the one thread. -/
def trC (tr : List (Nat × Nat)) : List Value := tr.flatMap fun m => [.int .i64 0, .int .u8 (m.1 : Int), .int .i64 (m.2 : Int)]
theorem trC_len (tr : List (Nat × Nat)) : (trC tr).length = tr.length * 3 := by
  induction tr with
  | nil => rfl
  | cons a l ih => simp [trC] at ih ⊢; omega
theorem trC_snoc (tr : List (Nat × Nat)) (m : Nat × Nat) : trC (tr ++ [m]) = trC tr ++ [.int .i64 0, .int .u8 (m.1 : Int), .int .i64 (m.2 : Int)] := by simp [trC]
/-- Play under way: the thread T, the world WB; P1, P2 its results, L the row of its one thread; X: blocks that are neither the thread's nor the world's. -/
structure PJ (A0 WB P1 P2 T L : Nat) (vc : Value) (calls : List (List In × List Nat)) (w : World) (X : Nat → Prop) (F FW : Nat → Prop) (s : MS) (ws : List (List Nat)) (nl : Nat) (wr : World) : Prop where
  ti : TI A0 T vc F s wr
  wm : WM A0 WB FW ws nl wr
  dis : ∀ b, F b → ¬ FW b
  xf : ∀ b, X b → ¬ F b ∧ ¬ FW b ∧ A0 ≤ b ∧ b < wr.heap.size
  r1 : Row wr P1 #[.slice none 0 0, .slice none 0 0] 66
  r2 : Row wr P2 #[.slice none 0 0, .slice none 0 0] 32
  rL : wr.cell? ⟨L, 0, none⟩ = some (.pointer (some ⟨T, 0, none⟩))
  x1 : X P1
  x2 : X P2
  xL : X L
  sm : Sm (fun _ => False) w wr
  calls : CallsB A0 vc calls wr
  low : A0 = w.heap.size
theorem PJ.step {A0 WB P1 P2 T L : Nat} {vc : Value} {calls : List (List In × List Nat)} {w : World} {X F FW : Nat → Prop} {s s' : MS} {ws ws' : List (List Nat)} {nl : Nat} {wr w' : World} (h : PJ A0 WB P1 P2 T L vc calls w X F FW s ws nl wr) {F' : Nat → Prop} (hT : TI A0 T vc F' s' w') (hW : WM A0 WB FW ws' nl w')
    (k : Sm (fun b => F b ∨ FW b) wr w') (hF : ∀ b, F' b → F b ∨ wr.heap.size ≤ b) : PJ A0 WB P1 P2 T L vc calls w X F' FW s' ws' nl w' := by
  have hx : ∀ b, X b → ¬ (F b ∨ FW b) := fun b hb e => e.elim (h.xf b hb).1 (h.xf b hb).2.1
  have hlow : ∀ b, F b ∨ FW b → A0 ≤ b := fun b e => e.elim (fun e => (h.ti.blk b e).1) (fun e => (h.wm.blk b e).1)
  refine ⟨hT, hW, fun b hb e => ?_, fun b hb => ⟨fun e => ?_, (h.xf b hb).2.1, (h.xf b hb).2.2.1, Nat.lt_of_lt_of_le (h.xf b hb).2.2.2 k.size⟩, h.r1.sm k (hx _ h.x1), h.r2.sm k (hx _ h.x2), (k.cell (p := ⟨L, 0, none⟩) (h.xf L h.xL).2.2.2 (hx _ h.xL)).trans h.rL, h.x1, h.x2, h.xL,
    ((h.sm.mono (F' := fun b => F b ∨ FW b) (fun _ h => h.elim)).trans k).new (fun b hb => by have := hlow b hb; have := h.low; omega), h.calls.sm k hlow, h.low⟩
  · rcases hF b hb with e1 | e1
    · exact h.dis b e1 e
    · have := (h.wm.blk b e).2
      omega
  · rcases hF b e with e1 | e1
    · exact (h.xf b hb).1 e1
    · have := (h.xf b hb).2.2.2
      omega
/-- Changes among the blocks X, and new ones. -/
theorem PJ.side {A0 WB P1 P2 T L : Nat} {vc : Value} {calls : List (List In × List Nat)} {w : World} {X Y G F FW : Nat → Prop} {s : MS} {ws : List (List Nat)} {nl : Nat} {wr w' : World} (h : PJ A0 WB P1 P2 T L vc calls w X F FW s ws nl wr) (k : Sm G wr w') (hG : ∀ b, G b → X b ∧ b ≠ P1 ∧ b ≠ P2 ∧ b ≠ L)
    (hY : ∀ b, Y b → X b ∨ wr.heap.size ≤ b ∧ b < w'.heap.size) (y1 : Y P1) (y2 : Y P2) (yL : Y L) : PJ A0 WB P1 P2 T L vc calls w Y F FW s ws nl w' := by
  have hGF : ∀ b, F b → ¬ G b := fun b hb e => (h.xf b (hG b e).1).1 hb
  have hGW : ∀ b, FW b → ¬ G b := fun b hb e => (h.xf b (hG b e).1).2.1 hb
  have hlow : ∀ b, G b → A0 ≤ b := fun b hb => (h.xf b (hG b hb).1).2.2.1
  refine ⟨h.ti.sm k hGF, h.wm.sm k hGW, h.dis, fun b hb => ?_, h.r1.sm k (fun e => (hG _ e).2.1 rfl), h.r2.sm k (fun e => (hG _ e).2.2.1 rfl), (k.cell (p := ⟨L, 0, none⟩) (h.xf L h.xL).2.2.2 (fun e => (hG _ e).2.2.2 rfl)).trans h.rL, y1, y2, yL,
    ((h.sm.mono (F' := G) (fun _ h => h.elim)).trans k).new (fun b hb => by have := hlow b hb; have := h.low; omega), h.calls.sm k hlow, h.low⟩
  rcases hY b hb with e | e
  · exact ⟨(h.xf b e).1, (h.xf b e).2.1, (h.xf b e).2.2.1, Nat.lt_of_lt_of_le (h.xf b e).2.2.2 k.size⟩
  · refine ⟨fun e1 => ?_, fun e1 => ?_, ?_, e.2⟩
    · have := (h.ti.blk b e1).2
      omega
    · have := (h.wm.blk b e1).2
      omega
    · have := h.sm.size
      have := h.low
      omega
/-- Play's turns under way: the trace in block PB. -/
structure PK (A0 WB P1 P2 T L PB : Nat) (vc : Value) (calls : List (List In × List Nat)) (w : World) (F FW : Nat → Prop) (s : MS) (ws : List (List Nat)) (nl : Nat) (tr : List (Nat × Nat)) (vT : Value) (wr : World) : Prop where
  pj : PJ A0 WB P1 P2 T L vc calls w (fun b => b = P1 ∨ b = P2 ∨ b = L ∨ b = PB ∨ vT.ownBlock = some b) F FW s ws nl wr
  rB : Row wr PB #[vT, .slice none 0 0] 66
  tr : wr.ownsRow A0 111 3 vT tr.length (trC tr)
  nb : P1 < PB ∧ P2 < PB ∧ L < PB
  nv : ∀ b, vT.ownBlock = some b → PB < b
theorem PK.ndrew {A0 WB P1 P2 T L PB : Nat} {vc : Value} {calls : List (List In × List Nat)} {w : World} {F FW : Nat → Prop} {s : MS} {ws : List (List Nat)} {nl : Nat} {tr : List (Nat × Nat)} {vT : Value} {wr wd : World} (h : PK A0 WB P1 P2 T L PB vc calls w F FW s ws nl tr vT wr) (k : Sm (fun _ => False) wr wd) : PK A0 WB P1 P2 T L PB vc calls w F FW s ws nl tr vT wd :=
  ⟨h.pj.side k (fun _ h => h.elim) (fun b hb => .inl hb) h.pj.x1 h.pj.x2 h.pj.xL, h.rB.sm k (fun h => h), own_smF h.tr k (fun _ _ h => h), h.nb, h.nv⟩
theorem pk_step {A0 WB P1 P2 T L PB : Nat} {vc : Value} {calls : List (List In × List Nat)} {w : World} {F FW : Nat → Prop} {s s2 : MS} {ws ws1 : List (List Nat)} {nl : Nat} {tr : List (Nat × Nat)} {mk : Nat × Nat} {vT v5 : Value} {wr w2 w5 : World} {o : Obj} (h : PK A0 WB P1 P2 T L PB vc calls w F FW s ws nl tr vT wr)
    (hop : OpEnd A0 T WB vc F FW s2 ws1 nl wr w2) (hg : (w2.alloc o).grownBy w5 vT.ownBlock) (ho : w5.ownsRow A0 111 3 v5 (tr.length + 1) (trC tr ++ [.int .i64 0, .int .u8 (mk.1 : Int), .int .i64 (mk.2 : Int)])) (hat : v5.ownBlock = vT.ownBlock ∨ v5.ownBlock = some (w2.alloc o).heap.size) :
    ∃ F', PK A0 WB P1 P2 T L PB vc calls w F' FW s2 ws1 nl (tr ++ [mk]) v5 (w5.setCell ⟨PB, 0, none⟩ v5) := by
  obtain ⟨F', hT, hW, k, hF⟩ := hop
  have hx := h.pj.xf
  have hj2 := h.pj.step hT hW k (fun b hb => (hF b hb).imp_right Nat.le_of_lt)
  have hnX : ∀ b, (b = P1 ∨ b = P2 ∨ b = L ∨ b = PB ∨ vT.ownBlock = some b) → ¬ (F b ∨ FW b) := fun b hb e => e.elim (hx b hb).1 (hx b hb).2.1
  have hr2 := h.rB.sm k (hnX PB (.inr (.inr (.inr (.inl rfl)))))
  have ht2 := own_smF h.tr k (fun b hb => hnX b (.inr (.inr (.inr (.inr hb)))))
  have k2a : Sm (fun _ => False) w2 (w2.alloc o) := (Sm.refl _ _).alloc o
  have kg : Sm (fun b => vT.ownBlock = some b) (w2.alloc o) w5 := sm_grown hg (fun b e => e)
  have kset : Sm (fun b => b = PB) w5 (w5.setCell ⟨PB, 0, none⟩ v5) := Sm.setCell (F := fun b => b = PB) (p := ⟨PB, 0, none⟩) (Sm.refl _ _) rfl _
  have kall : Sm (fun b => vT.ownBlock = some b ∨ b = PB) w2 (w5.setCell ⟨PB, 0, none⟩ v5) := ((k2a.mono (fun _ h => h.elim)).trans (kg.mono (fun b e => .inl e))).trans (kset.mono (fun b e => .inr e))
  have nvT : vT.ownBlock ≠ some PB := fun e => by have := h.nv PB e; omega
  have n5 : ∀ b, v5.ownBlock = some b → PB < b := fun b hb => by
    rcases hat with e | e
    · exact h.nv b (e ▸ hb)
    · rw [e] at hb
      cases hb
      have := hr2.lt
      simp
      omega
  have hr5 : Row w5 PB #[vT, .slice none 0 0] 66 := (hr2.sm k2a (fun h => h)).sm kg nvT
  refine ⟨F', hj2.side kall (fun b hb => ?_) (fun b hb => ?_) (.inl rfl) (.inr (.inl rfl)) (.inr (.inr (.inl rfl))), hr5.set 0 v5, ?_, h.nb, n5⟩
  · have hnb := h.nb
    rcases hb with e | e
    · have := h.nv b e
      exact ⟨.inr (.inr (.inr (.inr e))), by omega, by omega, by omega⟩
    · subst e
      exact ⟨.inr (.inr (.inr (.inl rfl))), by omega, by omega, by omega⟩
  · rcases hb with e | e | e | e | e
    · exact .inl (.inl e)
    · exact .inl (.inr (.inl e))
    · exact .inl (.inr (.inr (.inl e)))
    · exact .inl (.inr (.inr (.inr (.inl e))))
    · rcases hat with e1 | e1
      · exact .inl (.inr (.inr (.inr (.inr (e1 ▸ e)))))
      · have := (ho.lt b e).2
        rw [e1] at e
        cases e
        exact .inr ⟨by simp, by simpa [World.setCell] using this⟩
  · rw [trC_snoc, List.length_append]
    exact own_smF ho kset (fun b hb e => by have := n5 b hb; omega)
end Go.Proofs.Ytokoniaoknnggaa
