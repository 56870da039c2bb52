/- What LaneOut keeps in memory, and how it fares at each step. -/
import Derived.Test.YthjdnhlckjchgaaLanP
import Derived.Deep.RegionHeld3
import Derived.Deep.AppendLies
namespace Go.Proofs.Ythjdnhlckjchgaa
open Go.RowKit
set_option linter.unusedVariables false
set_option linter.unusedSimpArgs false

structure OM (B L : Nat) (ln : Nat → Nat) (O N M P X : Nat) (w0 : World) (v12 : Value) (pl nxo nxl : List Nat) (ws : List Wt) (wr : World) : Prop where
  st : wr.ownsRow B 38 2 v12 L (rowsS ln L).flatten
  od : OrdL O N M nxo L ws wr
  put : Row wr P (putB L pl) 4
  nxt : Row wr X (uw nxl) 36
  sm : Sm (fun b => w0.heap.size ≤ b) w0 wr
  ob : w0.heap.size ≤ N ∧ N < M ∧ M < O ∧ O < B ∧ B ≤ P ∧ P < X
section
variable {B L : Nat} {ln : Nat → Nat} {O N M P X : Nat} {w0 : World} {v12 : Value} {pl nxo nxl : List Nat} {ws : List Wt} {wr w' : World}
theorem OM.lt (h : OM B L ln O N M P X w0 v12 pl nxo nxl ws wr) : P < wr.heap.size ∧ X < wr.heap.size := ⟨h.put.lt, h.nxt.lt⟩
theorem OM.fresh (h : OM B L ln O N M P X w0 v12 pl nxo nxl ws wr) (k : Sm (fun _ => False) wr w') : OM B L ln O N M P X w0 v12 pl nxo nxl ws w' :=
  ⟨own_sm h.st k (fun _ _ h => h), h.od.sm k (fun h => h) (fun h => h) (fun h => h), h.put.sm k (fun h => h), h.nxt.sm k (fun h => h), h.sm.trans (k.mono (fun _ h => h.elim)), h.ob⟩
theorem OM.grow (h : OM B L ln O N M P X w0 v12 pl nxo nxl ws wr) {e : TypeId} {sz n : Nat} {v : Value} {xs : List Value} (hv : wr.ownsRow B e sz v n xs) (h1 : e ≠ 38) (h2 : e ≠ 4) (h3 : e ≠ 36) (hg : wr.grownBy w' v.ownBlock) :
    OM B L ln O N M P X w0 v12 pl nxo nxl ws w' := by
  have hb : ∀ b, v.ownBlock = some b → B ≤ b := fun b e => (hv.lt _ e).1
  have hob := h.ob
  have k : Sm (fun b => v.ownBlock = some b) wr w' := sm_grown hg (fun b e => e)
  refine ⟨own_apart h.st hg (own_ne hv h.st h1), h.od.sm k (fun e => ?_) (fun e => ?_) (fun e => ?_), h.put.sm k (own_ne_row hv h.put h2), h.nxt.sm k (own_ne_row hv h.nxt h3), h.sm.trans (k.mono (fun b e => ?_)), h.ob⟩
  · have := hb _ e; omega
  · have := hb _ e; omega
  · have := hb _ e; omega
  · have := hb _ e; omega
theorem OM.putAt (h : OM B L ln O N M P X w0 v12 pl nxo nxl ws wr) {x : Nat} {pl' : List Nat} (hp : ∀ j, j ∈ pl' ↔ j ∈ pl ∧ j ≠ x) : OM B L ln O N M P X w0 v12 pl' nxo nxl ws (wr.setCell ⟨P, x, none⟩ (.bool true)) := by
  have hob := h.ob
  have k : Sm (fun b => b = P) wr (wr.setCell ⟨P, x, none⟩ (.bool true)) := Sm.setCell (F := fun b => b = P) (p := ⟨P, x, none⟩) (Sm.refl _ _) rfl _
  refine ⟨own_keep h.st k (fun b hb e => own_ne_row h.st h.put (by decide) (by rw [hb, e])), h.od.sm k (by omega) (by omega) (by omega), ?_, h.nxt.sm k (by omega), h.sm.trans (k.mono (fun b e => by omega)), h.ob⟩
  have := h.put.set x (.bool true)
  rwa [putB_set L pl pl' x hp] at this
theorem OM.called (h : OM B L ln O N M P X w0 v12 pl nxo nxl ws wr) {nxo' : List Nat} {ws' : List Wt} (k : Sm (fun b => b = N ∨ b = M) wr w') (ho : OrdL O N M nxo' L ws' w') : OM B L ln O N M P X w0 v12 pl nxo' nxl ws' w' := by
  have hob := h.ob
  exact ⟨own_sm h.st k (by omega), ho, h.put.sm k (by omega), h.nxt.sm k (by omega), h.sm.trans (k.mono (fun b e => by omega)), h.ob⟩
theorem OM.nextAt (h : OM B L ln O N M P X w0 v12 pl nxo nxl ws wr) (A v : Nat) : OM B L ln O N M P X w0 v12 pl nxo (nxl.set A v) ws (wr.setCell ⟨X, A, none⟩ (.int .u64 (v : Int))) := by
  have hob := h.ob
  have k : Sm (fun b => b = X) wr (wr.setCell ⟨X, A, none⟩ (.int .u64 (v : Int))) := Sm.setCell (F := fun b => b = X) (p := ⟨X, A, none⟩) (Sm.refl _ _) rfl _
  refine ⟨own_keep h.st k (fun b hb e => own_ne_row h.st h.nxt (by decide) (by rw [hb, e])), h.od.sm k (by omega) (by omega) (by omega), h.put.sm k (by omega), ?_, h.sm.trans (k.mono (fun b e => by omega)), h.ob⟩
  have := h.nxt.set A (.int .u64 (v : Int))
  rwa [uw_set] at this
/-- Another row of the walk's own stays where next is written. -/
theorem OM.own_next (h : OM B L ln O N M P X w0 v12 pl nxo nxl ws wr) {base : Nat} {e : TypeId} {sz n : Nat} {v : Value} {xs : List Value} (hv : wr.ownsRow base e sz v n xs) (he : e ≠ 36) (A : Nat) (u : Value) : (wr.setCell ⟨X, A, none⟩ u).ownsRow base e sz v n xs :=
  own_keep hv (Sm.setCell (F := fun b => b = X) (p := ⟨X, A, none⟩) (Sm.refl _ _) rfl _) (fun b hb e2 => own_ne_row hv h.nxt he (by rw [hb, e2]))
theorem OM.own_put (h : OM B L ln O N M P X w0 v12 pl nxo nxl ws wr) {base : Nat} {e : TypeId} {sz n : Nat} {v : Value} {xs : List Value} (hv : wr.ownsRow base e sz v n xs) (he : e ≠ 4) (A : Nat) (u : Value) : (wr.setCell ⟨P, A, none⟩ u).ownsRow base e sz v n xs :=
  own_keep hv (Sm.setCell (F := fun b => b = P) (p := ⟨P, A, none⟩) (Sm.refl _ _) rfl _) (fun b hb e2 => own_ne_row hv h.put he (by rw [hb, e2]))
/-- A stamp's two cells. -/
theorem OM.stamp (h : OM B L ln O N M P X w0 v12 pl nxo nxl ws wr) {a : Option Addr} {c : Nat} (hv : v12 = .slice a L c) {j : Nat} (hj : j < L) : ∃ g, a = some ⟨g, 0, none⟩ ∧ wr.rangeAt g (j * 2) (stampC ln j) := by
  obtain ⟨a', c', e, -, -, hr⟩ := own_reads (by decide) h.st
  rw [hv] at e
  simp only [Value.slice.injEq] at e
  obtain ⟨rfl, -, rfl⟩ := e
  obtain ⟨g, ha, -, -, hc⟩ := hr (by omega)
  refine ⟨g, ha, fun i u hu => hc _ u ?_⟩
  exact flat_get 2 _ (rowsS_2 ln L) j (by rw [rowsS_len]; exact hj) i u (by simpa [rowsS] using hu)
end
/-- What the inner loop keeps: the order, who is left, who is done, who came out just now. -/
structure IM (B L : Nat) (ln : Nat → Nat) (O N M P X : Nat) (w0 : World) (v12 v13 v19 v24 : Value) (pl nxo nxl : List Nat) (ws : List Wt) (d js : List Nat) (wr : World) : Prop where
  om : OM B L ln O N M P X w0 v12 pl nxo nxl ws wr
  lf : wr.ownsRow B 3 1 v13 pl.length (ic (natI pl))
  dn : wr.ownsRow B 54 12 v19 d.length (d.map (doneF ln)).flatten
  ou : wr.ownsRow B 3 1 v24 js.length (ic (natI js))
section
variable {B L : Nat} {ln : Nat → Nat} {O N M P X : Nat} {w0 : World} {v12 v13 v19 v24 : Value} {pl nxo nxl : List Nat} {ws : List Wt} {d js : List Nat} {wr w' : World}
theorem IM.fresh (h : IM B L ln O N M P X w0 v12 v13 v19 v24 pl nxo nxl ws d js wr) (k : Sm (fun _ => False) wr w') : IM B L ln O N M P X w0 v12 v13 v19 v24 pl nxo nxl ws d js w' :=
  ⟨h.om.fresh k, own_sm h.lf k (fun _ _ h => h), own_sm h.dn k (fun _ _ h => h), own_sm h.ou k (fun _ _ h => h)⟩
theorem IM.nextAt (h : IM B L ln O N M P X w0 v12 v13 v19 v24 pl nxo nxl ws d js wr) (A v : Nat) : IM B L ln O N M P X w0 v12 v13 v19 v24 pl nxo (nxl.set A v) ws d js (wr.setCell ⟨X, A, none⟩ (.int .u64 (v : Int))) :=
  ⟨h.om.nextAt A v, h.om.own_next h.lf (by decide) A _, h.om.own_next h.dn (by decide) A _, h.om.own_next h.ou (by decide) A _⟩
theorem IM.grow (h : IM B L ln O N M P X w0 v12 v13 v19 v24 pl nxo nxl ws d js wr) {v19' : Value} {y : Nat} (hg : wr.grownBy w' v19.ownBlock) (ho : w'.ownsRow B 54 12 v19' (d.length + 1) ((d.map (doneF ln)).flatten ++ doneF ln y)) :
    IM B L ln O N M P X w0 v12 v13 v19' v24 pl nxo nxl ws (d ++ [y]) js w' := by
  refine ⟨h.om.grow h.dn (by decide) (by decide) (by decide) hg, own_apart h.lf hg (own_ne h.dn h.lf (by decide)), ?_, own_apart h.ou hg (own_ne h.dn h.ou (by decide))⟩
  have e : ((d ++ [y]).map (doneF ln)).flatten = (d.map (doneF ln)).flatten ++ doneF ln y := by simp
  rw [e, List.length_append]
  exact ho
end
/-- All that came out is in the flows' order. -/
theorem out_fin {L n : Nat} {KS : List KeyV} {put : Nat → Prop} {nx : List Nat} {ws : List Wt} {d : List Nat} (hL : L = KS.length) (hd : d.length = L) (h : LI L n (lnF KS n) put nx ws d) : keptF KS (natI d) 0 (fun _ => 0) = (L, true) := by
  have hlt : ∀ j ∈ d, j < KS.length := fun j hj => by
    rw [← hL]
    exact ((h.d1 j).1 hj).1
  have := keptF_ok KS d 0 (fun _ => 0) hlt (h.srt.imp_of_mem fun {a b} ha hb hab e => hab (by
    rw [lnF_get KS n a (hlt a ha), lnF_get KS n b (hlt b hb)]
    rw [List.getElem?_eq_getElem (hlt a ha), List.getElem?_eq_getElem (hlt b hb)] at e
    simp only [Option.some.injEq] at e
    rw [e])) (fun j _ k _ => Int.natCast_nonneg j)
  rw [Nat.zero_add, hd] at this
  exact this
theorem done_ok (ln : Nat → Nat) (d : List Nat) : ∀ j (h : j < (d.map (doneF ln)).length), (d.map (doneF ln))[j].length = 12 ∧ (∀ v ∈ (d.map (doneF ln))[j], v.oneCell' = true) ∧ (d.map (doneF ln))[j][0]? = (natI d)[j]?.map (Value.int .i64 ·) := by
  intro j hj
  rw [List.length_map] at hj
  simp [natI, doneF, hj, Value.oneCell']
theorem bnd_step {nx d js : List Nat} {A : Nat} (hb : ∀ y ∈ nx, y ≤ d.length) : ∀ y ∈ nx.set A (nx.getD A 0 + js.length), y ≤ (d ++ js).length := by
  intro y hy
  rw [List.length_append]
  rcases List.mem_or_eq_of_mem_set hy with h | rfl
  · have := hb y h
    omega
  · have : nx.getD A 0 ≤ d.length := by
      rw [List.getD_eq_getElem?_getD]
      cases h : nx[A]? with
      | none => exact Nat.zero_le _
      | some z => exact hb z (List.mem_of_getElem? h)
    omega
theorem set_getD_self (nx : List Nat) (A : Nat) : nx.set A (nx.getD A 0 + 0) = nx := by
  apply List.ext_getElem?
  intro i
  rw [List.getElem?_set]
  split
  · rename_i e
    subst e
    split
    · rename_i h
      simp [List.getD, h]
    · rename_i h
      rw [List.getElem?_eq_none (by omega)]
  · rfl
/-- One round: one that is left is put. -/
theorem round_law {L n : Nat} {ln : Nat → Nat} {left d nx : List Nat} {ws : List Wt} (hL : L ≤ 60) (h : LI L n ln (fun j => j ∉ left) nx ws d) (hf : Full L ln (fun j => j ∉ left) nx) (hnl : left.Nodup ∧ ∀ j ∈ left, j < L) (hb : ∀ y ∈ nx, y ≤ d.length) (hln : ∀ j, ln j < n) {k : Nat} (hk : k < left.length) {x : Nat} (hx : x = left[k]) :
    ∃ (js left' nx2 : List Nat) (ws2 : List Wt), left' = left.take k ++ left.drop (k + 1) ∧ x < L ∧ (∀ j, j ∈ left' ↔ j ∈ left ∧ j ≠ x) ∧ (left'.Nodup ∧ ∀ j ∈ left', j < L) ∧ left'.length + 1 = left.length ∧
      putL nx L ws (ln x : Int) (sq ln x) (x : Int) = ⟨nx2, ws2, natI js, 0⟩ ∧ nx2 = nx.set (ln x) (nx.getD (ln x) 0 + js.length) ∧
      (∀ m (hm : m < js.length), js[m] < L ∧ js[m] ∉ left' ∧ ln js[m] = ln x ∧ sq ln js[m] = nx.getD (ln x) 0 + m) ∧
      LI L n ln (fun j => j ∉ left') nx2 ws2 (d ++ js) ∧ Full L ln (fun j => j ∉ left') nx2 ∧ (∀ y ∈ nx2, y ≤ (d ++ js).length) ∧ (∀ y ∈ nx, y + ws.length < 1000000) ∧ ws.length < 1000000 ∧ d.length + js.length ≤ L ∧ nx.length = n := by
  have hxm : x ∈ left := by rw [hx]; exact List.getElem_mem hk
  have hxL : x < L := hnl.2 x hxm
  have hmem : ∀ j, j ∈ left.take k ++ left.drop (k + 1) ↔ j ∈ left ∧ j ≠ x := by rw [hx]; exact take_drop_mem hnl.1 hk
  have hput : ∀ i, (i ∉ left.take k ++ left.drop (k + 1)) ↔ (i ∉ left ∨ i = x) := by
    intro i
    rw [hmem]
    constructor
    · intro h
      by_cases e : i = x
      · exact .inr e
      · exact .inl (fun h2 => h ⟨h2, e⟩)
    · rintro (h | rfl) ⟨h1, h2⟩
      · exact h h1
      · exact h2 rfl
  obtain ⟨js, q1, q2, q3, q4, q5, q6⟩ := putL_law (put' := fun j => j ∉ left.take k ++ left.drop (k + 1)) h hf hxL hln (fun h => h hxm) hput
  have hfew := h.few hxL (fun h => h hxm)
  have hdl : (d ++ js).length ≤ L := nodup_lt _ L q5.dn (fun y hy => ((q5.d1 y).1 hy).1)
  rw [List.length_append] at hdl
  have hbd := bnd_step (A := ln x) (js := js) hb
  rw [← q3] at hbd
  refine ⟨js, _, _, _, rfl, hxL, hmem, ⟨take_drop_nodup hnl.1 k, fun j hj => hnl.2 j ((hmem j).1 hj).1⟩, ?_, ?_, q3, q4, q5, q6, hbd, fun y hy => ?_, by omega, hdl, h.len⟩
  · rw [List.length_append, List.length_take, List.length_drop]
    omega
  · obtain ⟨R, hR⟩ : ∃ R, R = putL nx L ws (ln x : Int) (sq ln x) (x : Int) := ⟨_, rfl⟩
    rw [← hR] at q1 q2 ⊢
    obtain ⟨r1, r2, r3, r4⟩ := R
    simp only at q1 q2
    rw [q1, q2]
    rfl
  · have := hb y hy
    omega
end Go.Proofs.Ythjdnhlckjchgaa
