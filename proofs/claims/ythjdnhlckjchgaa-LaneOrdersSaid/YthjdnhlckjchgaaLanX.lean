/- What LaneOrders keeps, and how it fares at each step. -/
import Derived.Test.YthjdnhlckjchgaaLanW
namespace Go.Proofs.Ythjdnhlckjchgaa
open Go.RowKit
set_option linter.unusedVariables false
set_option linter.unusedSimpArgs false

theorem RefL.apart {BR O N room : Nat} {nx : List Nat} {ws : List Wt} {vW : Value} {w : World} (h : RefL BR O N nx room ws vW w) {b0 sz n : Nat} {e : TypeId} {v : Value} {xs : List Value} (hv : w.ownsRow b0 e sz v n xs) (h1 : e ≠ 45) (h2 : e ≠ 36) (h3 : e ≠ 123) :
    ∀ b, v.ownBlock = some b → ¬ (b = O ∨ b = N ∨ vW.ownBlock = some b) := fun b hb e => by
  rcases e with rfl | rfl | e
  · exact own_ne_row hv h.rO h1 hb
  · exact own_ne_row hv h.rN h2 hb
  · exact Ap.of_or (own_ne hv h.own h3) b hb e

structure LS (B O N M BR RO RN room : Nat) (w0 : World) (n : Nat) (nxo : List Nat) (wso : List Wt) (nxr : List Nat) (wsr : List Wt) (vW vA vB : Value) (xa xb ra rb : List Value) (os : List (List Int)) (wr : World) : Prop where
  od : OrdL O N M nxo room wso wr
  rd : RefL BR RO RN nxr room wsr vW wr
  va : wr.ownsRow B 33 1 vA xa.length xa
  vb : wr.ownsRow B 33 1 vB xb.length xb
  ne : Ap vA vB
  fam : Fam B n 0 ra rb os wr
  sm : Sm (fun b => w0.heap.size ≤ b) w0 wr
  ob : w0.heap.size ≤ N ∧ w0.heap.size ≤ M ∧ w0.heap.size ≤ O ∧ N < BR ∧ M < BR ∧ O < BR ∧ RO < B
  sz : B ≤ wr.heap.size
section
variable {B O N M BR RO RN room : Nat} {w0 : World} {n : Nat} {nxo : List Nat} {wso : List Wt} {nxr : List Nat} {wsr : List Wt} {vW vA vB : Value} {xa xb ra rb : List Value} {os : List (List Int)} {wr w' : World}
theorem LS.lt (h : LS B O N M BR RO RN room w0 n nxo wso nxr wsr vW vA vB xa xb ra rb os wr) : RO < wr.heap.size ∧ w0.heap.size ≤ wr.heap.size := ⟨h.rd.rO.lt, h.sm.size⟩
theorem LS.fresh (h : LS B O N M BR RO RN room w0 n nxo wso nxr wsr vW vA vB xa xb ra rb os wr) (k : Sm (fun _ => False) wr w') : LS B O N M BR RO RN room w0 n nxo wso nxr wsr vW vA vB xa xb ra rb os w' :=
  ⟨h.od.sm k (fun h => h) (fun h => h) (fun h => h), h.rd.fresh k, own_sm h.va k (fun _ _ h => h), own_sm h.vb k (fun _ _ h => h), h.ne, h.fam.fresh k, h.sm.trans (k.mono (fun _ h => h.elim)), h.ob, Nat.le_trans h.sz k.size⟩
theorem LS.put (h : LS B O N M BR RO RN room w0 n nxo wso nxr wsr vW vA vB xa xb ra rb os wr) {nxo' : List Nat} {wso' : List Wt} (k : Sm (fun b => b = N ∨ b = M) wr w') (ho : OrdL O N M nxo' room wso' w') : LS B O N M BR RO RN room w0 n nxo' wso' nxr wsr vW vA vB xa xb ra rb os w' := by
  have hob := h.ob
  have hge := h.rd.ge
  refine ⟨ho, h.rd.sm k (by omega) (by omega) (fun b hb e => ?_), own_sm h.va k (by omega), own_sm h.vb k (by omega), h.ne, h.fam.keep k (fun j h1 h2 b hb e => ?_) (fun j h1 h2 b hb e => ?_), h.sm.trans (k.mono (fun b e => by omega)), h.ob, Nat.le_trans h.sz k.size⟩
  · have := (h.rd.own.lt b hb).1; omega
  · have := ((h.fam.oa j h1 h2).lt b hb).1; omega
  · have := ((h.fam.ob j h1 h2).lt b hb).1; omega
theorem LS.rput (h : LS B O N M BR RO RN room w0 n nxo wso nxr wsr vW vA vB xa xb ra rb os wr) {nxr' : List Nat} {wsr' : List Wt} {vW' : Value} (k : Sm (fun b => b = RO ∨ b = RN ∨ vW.ownBlock = some b) wr w') (hr : RefL BR RO RN nxr' room wsr' vW' w') : LS B O N M BR RO RN room w0 n nxo wso nxr' wsr' vW' vA vB xa xb ra rb os w' := by
  have hob := h.ob
  have hge := h.rd.ge
  have hlo : ∀ b, b < BR → ¬ (b = RO ∨ b = RN ∨ vW.ownBlock = some b) := fun b hb e => by
    rcases e with e | e | e
    · omega
    · omega
    · have := (h.rd.own.lt b e).1; omega
  refine ⟨h.od.sm k (hlo _ (by omega)) (hlo _ (by omega)) (hlo _ (by omega)), hr, own_keep h.va k (h.rd.apart h.va (by decide) (by decide) (by decide)), own_keep h.vb k (h.rd.apart h.vb (by decide) (by decide) (by decide)), h.ne, h.fam.keep k (fun j h1 h2 => h.rd.apart (h.fam.oa j h1 h2) (by decide) (by decide) (by decide)) (fun j h1 h2 => h.rd.apart (h.fam.ob j h1 h2) (by decide) (by decide) (by decide)), h.sm.trans (k.mono (fun b e => ?_)), h.ob, Nat.le_trans h.sz k.size⟩
  rcases e with e | e | e
  · omega
  · omega
  · have := (h.rd.own.lt b e).1; omega
theorem LS.growA (h : LS B O N M BR RO RN room w0 n nxo wso nxr wsr vW vA vB xa xb ra rb os wr) {vA' : Value} {xa' : List Value} (hg : wr.grownBy w' vA.ownBlock) (ho : w'.ownsRow B 33 1 vA' xa'.length xa') (hn : Ap vA' vB) : LS B O N M BR RO RN room w0 n nxo wso nxr wsr vW vA' vB xa' xb ra rb os w' := by
  have hob := h.ob
  have hge := h.rd.ge
  have k : Sm (fun b => vA.ownBlock = some b) wr w' := sm_grown hg (fun b e => e)
  have hB : ∀ b, vA.ownBlock = some b → B ≤ b := fun b hb => (h.va.lt b hb).1
  refine ⟨h.od.sm k (fun e => ?_) (fun e => ?_) (fun e => ?_), h.rd.sm k (own_ne_row h.va h.rd.rO (by decide)) (own_ne_row h.va h.rd.rN (by decide)) (fun b hb e => Ap.of_or (own_ne h.va h.rd.own (by decide)) b e hb), ho, own_apart h.vb hg h.ne.or, hn, h.fam.other h.va (by decide) k, h.sm.trans (k.mono (fun b e => ?_)), h.ob, Nat.le_trans h.sz k.size⟩
  · have := hB _ e; omega
  · have := hB _ e; omega
  · have := hB _ e; omega
  · have := hB _ e; omega
theorem LS.growB (h : LS B O N M BR RO RN room w0 n nxo wso nxr wsr vW vA vB xa xb ra rb os wr) {vB' : Value} {xb' : List Value} (hg : wr.grownBy w' vB.ownBlock) (ho : w'.ownsRow B 33 1 vB' xb'.length xb') (hn : Ap vA vB') : LS B O N M BR RO RN room w0 n nxo wso nxr wsr vW vA vB' xa xb' ra rb os w' := by
  have hob := h.ob
  have hge := h.rd.ge
  have k : Sm (fun b => vB.ownBlock = some b) wr w' := sm_grown hg (fun b e => e)
  have hB : ∀ b, vB.ownBlock = some b → B ≤ b := fun b hb => (h.vb.lt b hb).1
  refine ⟨h.od.sm k (fun e => ?_) (fun e => ?_) (fun e => ?_), h.rd.sm k (own_ne_row h.vb h.rd.rO (by decide)) (own_ne_row h.vb h.rd.rN (by decide)) (fun b hb e => Ap.of_or (own_ne h.vb h.rd.own (by decide)) b e hb), own_apart h.va hg h.ne.symm.or, ho, hn, h.fam.other h.vb (by decide) k, h.sm.trans (k.mono (fun b e => ?_)), h.ob, Nat.le_trans h.sz k.size⟩
  · have := hB _ e; omega
  · have := hB _ e; omega
  · have := hB _ e; omega
  · have := hB _ e; omega
end

theorem ap_lies {vA vB : Value} {g n c H : Nat} (hat : vA.ownBlock = some g ∨ g = H) (ne : Ap vA vB) (hb : ∀ b, vB.ownBlock = some b → b < H) : Ap (.slice (some ⟨g, 0, none⟩) n c) vB := fun b h1 h2 => by
  have e : b = g := by
    have : (Value.slice (some ⟨g, 0, none⟩) n c).ownBlock = some g := rfl
    rw [this] at h1
    simpa using h1.symm
  subst e
  rcases hat with h | h
  · exact ne b h h2
  · have := hb b h2; omega
/-- Behind the puts: all answers, from the i-th on unspoilt; the i-th may be spoilt. -/
structure LT (B : Nat) (w0 : World) (n i : Nat) (vA vB : Value) (ra rb : List Value) (os : List (List Int)) (wr : World) : Prop where
  va : wr.ownsRow B 33 1 vA n ra
  vb : wr.ownsRow B 33 1 vB n rb
  ne : Ap vA vB
  fam : Fam B n i ra rb os wr
  sm : Sm (fun b => w0.heap.size ≤ b) w0 wr
  ge : w0.heap.size ≤ B
structure LC (B : Nat) (w0 : World) (n i m : Nat) (vA vB : Value) (ra rb : List Value) (os : List (List Int)) (wr : World) : Prop where
  lt : LT B w0 n (i + 1) vA vB ra rb os wr
  cur : ∃ xs, wr.ownsRow B 3 1 (ra.getD i nilV) m xs
  apA : ∀ j, i + 1 ≤ j → j < n → Ap (ra.getD i nilV) (ra.getD j nilV)
  apB : ∀ j, i + 1 ≤ j → j < n → Ap (ra.getD i nilV) (rb.getD j nilV)
section
variable {B : Nat} {w0 : World} {n i m : Nat} {vA vB : Value} {ra rb : List Value} {os : List (List Int)} {wr w' : World}
theorem LT.fresh (h : LT B w0 n i vA vB ra rb os wr) (k : Sm (fun _ => False) wr w') : LT B w0 n i vA vB ra rb os w' :=
  ⟨own_sm h.va k (fun _ _ h => h), own_sm h.vb k (fun _ _ h => h), h.ne, h.fam.fresh k, h.sm.trans (k.mono (fun _ h => h.elim)), h.ge⟩
theorem LC.fresh (h : LC B w0 n i m vA vB ra rb os wr) (k : Sm (fun _ => False) wr w') : LC B w0 n i m vA vB ra rb os w' :=
  ⟨h.lt.fresh k, h.cur.elim (fun xs hx => ⟨xs, own_sm hx k (fun _ _ h => h)⟩), h.apA, h.apB⟩
theorem LT.at (h : LT B w0 n i vA vB ra rb os wr) (hi : i < n) : LC B w0 n i (os.getD i []).length vA vB ra rb os wr :=
  ⟨⟨h.va, h.vb, h.ne, ⟨fun j h1 => h.fam.oa j (by omega), fun j h1 => h.fam.ob j (by omega), fun j k h1 h2 h3 => h.fam.aa j k (by omega) h2 (by omega), fun j k h1 h2 h3 => h.fam.ab j k (by omega) h2 (by omega)⟩, h.sm, h.ge⟩, ⟨_, h.fam.oa i (Nat.le_refl _) hi⟩, fun j h1 h2 => h.fam.aa i j (Nat.le_refl _) hi (by omega) h2 (by omega), fun j h1 h2 => h.fam.ab i j (Nat.le_refl _) hi (by omega) h2⟩
/-- A cell of the i-th answer is spoilt. -/
theorem LC.spoil (h : LC B w0 n i m vA vB ra rb os wr) {g c : Nat} (hv : ra.getD i nilV = .slice (some ⟨g, 0, none⟩) m c) (k : Nat) (u : Value) : LC B w0 n i m vA vB ra rb os (wr.setCell ⟨g, k, none⟩ u) := by
  obtain ⟨xs, hx⟩ := h.cur
  rw [hv] at hx
  have hk : Sm (fun b => b = g) wr (wr.setCell ⟨g, k, none⟩ u) := Sm.setCell (F := fun b => b = g) (p := ⟨g, k, none⟩) (Sm.refl _ _) rfl _
  have hb : (Value.slice (some ⟨g, 0, none⟩) m c).ownBlock = some g := rfl
  have hg := (hx.lt g hb).1
  have hge := h.lt.ge
  refine ⟨⟨own_keep h.lt.va hk (fun b hb2 e => ?_), own_keep h.lt.vb hk (fun b hb2 e => ?_), h.lt.ne, h.lt.fam.keep hk (fun j h1 h2 b hb2 e => ?_) (fun j h1 h2 b hb2 e => ?_), h.lt.sm.trans (hk.mono (fun b e => by omega)), h.lt.ge⟩, ⟨xs.set k u, by rw [hv]; exact (hx.stored k u).1⟩, h.apA, h.apB⟩
  · subst e; exact Ap.of_or (own_ne hx h.lt.va (by decide)) _ hb hb2
  · subst e; exact Ap.of_or (own_ne hx h.lt.vb (by decide)) _ hb hb2
  · subst e; exact h.apA j h1 h2 _ (by rw [hv]; exact hb) hb2
  · subst e; exact h.apB j h1 h2 _ (by rw [hv]; exact hb) hb2
theorem getD_set {α : Type} (l : List α) (i j : Nat) (x d : α) (hi : i < l.length) : (l.set i x).getD j d = if j = i then x else l.getD j d := by
  simp only [List.getD_eq_getElem?_getD, List.getElem?_set]
  by_cases e : i = j
  · subst e; simp [hi]
  · rw [if_neg e, if_neg (fun h => e h.symm)]
/-- The i-th answer grows, and is laid back. -/
theorem LC.grow (h : LC B w0 n i m vA vB ra rb os wr) {gA cA : Nat} (hA : vA = .slice (some ⟨gA, 0, none⟩) n cA) (hl : ra.length = n) (hi : i < n) {g c : Nat} {xs : List Value} (hg : wr.grownBy w' (ra.getD i nilV).ownBlock) (ho : w'.ownsRow B 3 1 (.slice (some ⟨g, 0, none⟩) (m + 1) c) (m + 1) xs) (hat : (ra.getD i nilV).ownBlock = some g ∨ g = wr.heap.size) :
    LC B w0 n i (m + 1) vA vB (ra.set i (.slice (some ⟨g, 0, none⟩) (m + 1) c)) rb os (w'.setCell ⟨gA, i, none⟩ (.slice (some ⟨g, 0, none⟩) (m + 1) c)) := by
  obtain ⟨ys, hx⟩ := h.cur
  have k : Sm (fun b => (ra.getD i nilV).ownBlock = some b) wr w' := sm_grown hg (fun b e => e)
  have hva := own_apart h.lt.va hg (own_ne hx h.lt.va (by decide))
  have hvb := own_apart h.lt.vb hg (own_ne hx h.lt.vb (by decide))
  have hfam := h.lt.fam.keep k (fun j h1 h2 b hb e => h.apA j h1 h2 b e hb) (fun j h1 h2 b hb e => h.apB j h1 h2 b e hb)
  have hge := h.lt.ge
  have hsm : Sm (fun b => w0.heap.size ≤ b) w0 w' := h.lt.sm.trans (k.mono (fun b e => by have := (hx.lt b e).1; omega))
  have k2 : Sm (fun b => vA.ownBlock = some b) w' (w'.setCell ⟨gA, i, none⟩ (.slice (some ⟨g, 0, none⟩) (m + 1) c)) := Sm.setCell (F := fun b => vA.ownBlock = some b) (p := ⟨gA, i, none⟩) (Sm.refl _ _) (by rw [hA]; rfl) _
  have hAb := (hva.lt gA (by rw [hA]; rfl)).1
  have gset : ∀ j, (ra.set i (.slice (some ⟨g, 0, none⟩) (m + 1) c)).getD j nilV = if j = i then .slice (some ⟨g, 0, none⟩) (m + 1) c else ra.getD j nilV := fun j => getD_set ra i j _ _ (by omega)
  have hf2 := hfam.other hva (by decide) k2
  have hlow : ∀ v, (∀ b, v.ownBlock = some b → b < wr.heap.size) → Ap (ra.getD i nilV) v → Ap (.slice (some ⟨g, 0, none⟩) (m + 1) c) v := fun v hv ha b hb e => by
    have hbg : b = g := by
      have : (Value.slice (some ⟨g, 0, none⟩) (m + 1) c).ownBlock = some g := rfl
      rw [this] at hb
      simpa using hb.symm
    subst hbg
    rcases hat with h1 | h1
    · exact ha b h1 e
    · have := hv b e; omega
  refine ⟨⟨?_, own_keep hvb k2 (fun b hb e => h.lt.ne b e hb), h.lt.ne, ⟨fun j h1 h2 => ?_, hf2.ob, fun j l h1 h2 h3 h4 hne => ?_, fun j l h1 h2 h3 h4 => ?_⟩, hsm.trans (k2.mono (fun b e => by have := (hva.lt b e).1; omega)), h.lt.ge⟩, ⟨xs, ?_⟩, fun j h1 h2 => ?_, fun j h1 h2 => ?_⟩
  · rw [hA] at hva ⊢
    exact (hva.stored i _).1
  · rw [gset, if_neg (by omega)]; exact hf2.oa j h1 h2
  · rw [gset, gset, if_neg (by omega), if_neg (by omega)]; exact hf2.aa j l h1 h2 h3 h4 hne
  · rw [gset, if_neg (by omega)]; exact hf2.ab j l h1 h2 h3 h4
  · rw [gset, if_pos rfl]
    exact own_keep ho k2 (fun b hb e => Ap.of_or (own_ne ho hva (by decide)) b hb e)
  · rw [gset, gset, if_pos rfl, if_neg (by omega)]
    exact hlow _ (fun b hb => ((h.lt.fam.oa j h1 h2).lt b hb).2) (h.apA j h1 h2)
  · rw [gset, if_pos rfl]
    exact hlow _ (fun b hb => ((h.lt.fam.ob j h1 h2).lt b hb).2) (h.apB j h1 h2)
end
end Go.Proofs.Ythjdnhlckjchgaa
