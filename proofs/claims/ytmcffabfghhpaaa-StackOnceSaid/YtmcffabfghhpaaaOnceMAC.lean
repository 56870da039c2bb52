/- Plain words: a turn keeps the books right. No condition. -/
import Derived.Test.YtmcffabfghhpaaaOnceMAB
import Derived.Test.YtmcffabfghhpaaaFwAG
import Derived.Test.YtmcffabfghhpaaaOnceMAA
import Derived.Maps.OwnSet
import Derived.StillTailTactics
import Derived.Deep.Cut
set_option linter.unusedVariables false
set_option linter.unusedSimpArgs false
/- Plain words: a turn keeps the books right. No condition. -/
namespace Go.Proofs.Ytmcffabfghhpaaa
open Go.ConcN (sumTo upd sumTo_upd upd_ne upd_same le_sumTo sumTo_congr)
section
variable {n m : Nat} {l : Nat → List Bool} {a a' : SSt} {b b' : Nat → List Nat × List Nat} {pc : Nat → Option (SPos × Nat)} {L0 L1 L0' L1' : List Nat} {k i : Nat} {p : SPos} {q : Option (SPos × Nat)}
/-- What hangs on a held node's number is kept where that is. -/
theorem fit_of {k i : Nat} (h : ∀ j, holdP p = some j → a'.m.getD (2 * j + 1) 0 = a.m.getD (2 * j + 1) 0) (hf : Stand k i a p) : Stand k i a' p := by
  cases p <;> simp only [Stand, RdOk] at hf ⊢ <;> first
    | exact hf
    | (rw [h _ rfl]; exact hf)
theorem car_of {v : Nat} {q : Option (SPos × Nat)} (h : ∀ j, q.bind (fun x => holdP x.1) = some j → a'.m.getD (2 * j + 1) 0 = a.m.getD (2 * j + 1) 0) : carN a' q v = carN a q v := by
  unfold carN
  congr 1
  cases q with
  | none => rfl
  | some x =>
    obtain ⟨p, i⟩ := x
    cases p with
    | vld j =>
      have := h j rfl
      simp only [Option.bind_some, carry, this]
    | g1 _ _ r => cases r <;> rfl
    | g2 _ _ _ r => cases r <;> rfl
    | g3 _ _ _ r => cases r <;> rfl
    | _ => rfl
theorem BInv.mk' (h : BInv n m l a b pc L0 L1) (hk : k < m) (hp : pc k = some (p, i)) (hs : SInv n m a' (posN (upd pc k q)) L0' L1')
    (hodd : ∀ k' j, k' < m → k' ≠ k → (posN pc k').bind holdP = some j → a'.m.getD (2 * j + 1) 0 = a.m.getD (2 * j + 1) 0) (hf : ∀ p' i', q = some (p', i') → i' < (l k).length ∧ Stand k i' a' p')
    (hb : ∀ j, j ≠ k → b' j = b j) (hold : ∀ x ∈ (b' k).1, ∃ i', x = bnum k i' ∧ i' < cur l (upd pc k q) k) (hinc : (b' k).1.Pairwise (· < ·))
    (hv : ∀ v, (b' k).1.count v + (b k).2.count v + carN a (pc k) v + (lying a L0).count v = (b k).1.count v + (b' k).2.count v + carN a' q v + (lying a' L0').count v)
    (hord : (lying a' L0').Pairwise fun x y => x / 1000 = y / 1000 → y < x) : BInv n m l a' b' (upd pc k q) L0' L1' where
  s := hs
  fit := fun j hj p' i' hp' => by
    rcases pc_cases hp' with ⟨rfl, e⟩ | ⟨hne, e⟩
    · exact hf p' i' e
    · obtain ⟨h1, h2⟩ := h.fit j hj p' i' e
      exact ⟨h1, fit_of (fun y hy => hodd j y hj hne (by rw [BInv.pos e]; exact hy)) h2⟩
  old := fun j hj x hx => by
    by_cases e : j = k
    · subst e; exact hold x hx
    · rw [hb j e] at hx
      rw [cur_ne e]
      exact h.old j hj x hx
  inc := fun j hj => by
    by_cases e : j = k
    · subst e; exact hinc
    · rw [hb j e]; exact h.inc j hj
  vals := fun v => by
    have e0 : b' = upd b k (b' k) := by
      funext j
      by_cases e : j = k
      · subst e; rw [upd_same]
      · rw [upd_ne _ _ e, hb j e]
    have h1 := sumTo_upd b (b' k) (fun x => x.1.count v) hk
    have h2 := sumTo_upd b (b' k) (fun x => x.2.count v) hk
    rw [← e0] at h1 h2
    have h3 : sumTo m (fun j => carN a' (upd pc k q j) v) = sumTo m (fun j => id (upd (fun j => carN a (pc j) v) k (carN a' q v) j)) := sumTo_congr fun j hj => by
      by_cases e : j = k
      · subst e; simp only [upd_same, id]
      · simp only [upd_ne _ _ e, id]
        refine car_of fun y hy => hodd j y hj e ?_
        unfold posN
        rw [← hy]
        cases pc j <;> rfl
    have h4 := sumTo_upd (fun j => carN a (pc j) v) (carN a' q v) id hk
    rw [← h3] at h4
    simp only [id] at h4
    have h5 := h.vals v
    have h6 := hv v
    omega
  ord := hord
  short := h.short
theorem lying_same {L : List Nat} (h : ∀ j ∈ L, a'.m.getD (2 * j + 1) 0 = a.m.getD (2 * j + 1) 0) : lying a' L = lying a L := List.map_congr_left h
theorem cur_some {x : SPos × Nat} : cur l (upd pc k (some x)) k = x.2 := by unfold cur; rw [upd_same]
theorem top_m {i' t : Nat} : (a.setTop i' t).m = a.m := by unfold SSt.setTop; split <;> rfl
set_option maxHeartbeats 2000000 in
/-- ████ A TURN. ████ -/
theorem BInv.step (h : BInv n m l a b pc L0 L1) (hk : k < m) (hp : pc k = some (p, i)) (ht : ∀ i, a.top i / 4294967296 < 4294967295) :
    ∃ L0' L1', BInv n m l (bstep l k p i a b).1 (bstep l k p i a b).2.1 (upd pc k (bstep l k p i a b).2.2) L0' L1' := by
  obtain ⟨hil, hfit⟩ := h.fit k hk p i hp
  have hck : cur l pc k = i := by unfold cur; rw [hp]
  obtain ⟨L0', L1', hs, hchg⟩ := h.s.step hk (BInv.pos hp) ht (q := (bstep l k p i a b).2.2.map (·.1)) (by
    unfold bstep
    cases (p.exec a).2 with
    | inl p' => rfl
    | inr r =>
      rcases next_hold (l := l) (k := k) (i := i + 1) with e | ⟨i', kd, e, hi'⟩
      · exact ⟨by rw [e]; rfl, fun p' hp' => by rw [e] at hp'; cases hp'⟩
      · exact ⟨by rw [e]; rfl, fun p' hp' => by rw [e] at hp'; obtain rfl := Option.some.inj hp'; exact ⟨i', kd, rfl, hi'⟩⟩)
  rw [← posN_upd] at hs
  have hs0 : (bstep l k p i a b).1 = (p.exec a).1 := by unfold bstep; cases (p.exec a).2 <;> rfl
  rw [← hs0] at hs
  have nextF : ∀ a2 p' i', bookNext l k (i + 1) = some (p', i') → i' < (l k).length ∧ Stand k i' a2 p' := fun a2 p' i' e => by
    obtain ⟨e1, e2, i2, kd, e3, e4⟩ := bookNext_some e
    simp only at e1 e3
    subst e1 e3
    exact ⟨e2, e4⟩
  have hold' : ∀ {q : Option (SPos × Nat)}, i ≤ cur l (upd pc k q) k → ∀ x ∈ (b k).1, ∃ i', x = bnum k i' ∧ i' < cur l (upd pc k q) k := fun hc x hx => by
    obtain ⟨i', h1, h2⟩ := h.old k hk x hx
    exact ⟨i', h1, by omega⟩
  have hcn : i ≤ cur l (upd pc k (bookNext l k (i + 1))) k := Nat.le_of_lt (next_cur i hil)
  have hcn' : i < cur l (upd pc k (bookNext l k (i + 1))) k := next_cur i hil
  refine ⟨L0', L1', ?_⟩
  cases p with
  | t1 i' kd =>
    have hchg : L0' = L0 := hchg
    subst hchg
    by_cases e : a.top i' % 4294967296 = 0
    · have hb : bstep l k (.t1 i' kd) i a b = (a, b, bookNext l k (i + 1)) := by
        unfold bstep SPos.exec
        simp only [e, if_true]
        rw [show bookUpd k i (.none kd) (b k) = b k from rfl, set1_same]
      rw [hb] at hs ⊢
      exact h.mk' hk hp hs (fun _ _ _ _ _ => rfl) (nextF a) (fun _ _ => rfl) (hold' hcn) (h.inc k hk) (fun v => by rw [hp, next_car, carN_none (q := some (SPos.t1 i' kd, i)) rfl] <;> omega) h.ord
    · have hb : bstep l k (.t1 i' kd) i a b = (a, b, some (.t2 i' (a.top i') kd, i)) := by
        unfold bstep SPos.exec
        simp only [e, if_false]
      rw [hb] at hs ⊢
      exact h.mk' hk hp hs (fun _ _ _ _ _ => rfl) (fun p' i'' e => by obtain ⟨rfl, rfl⟩ := Prod.mk.inj (Option.some.inj e); exact ⟨hil, hfit⟩) (fun _ _ => rfl) (hold' (by rw [cur_some]; exact Nat.le_refl _)) (h.inc k hk) (fun v => by rw [hp, carN_none (q := some (SPos.t1 i' kd, i)) rfl, carN_none (q := some (SPos.t2 i' (a.top i') kd, i)) rfl] <;> omega) h.ord
  | t2 i' hh kd =>
    have hchg : L0' = L0 := hchg
    subst hchg
    have hb : bstep l k (.t2 i' hh kd) i a b = (a, b, some (.t3 i' hh (a.m.getD (2 * (hh % 4294967296 - 1)) 0) kd, i)) := rfl
    rw [hb] at hs ⊢
    exact h.mk' hk hp hs (fun _ _ _ _ _ => rfl) (fun p' i'' e => by obtain ⟨rfl, rfl⟩ := Prod.mk.inj (Option.some.inj e); exact ⟨hil, hfit⟩) (fun _ _ => rfl) (hold' (by rw [cur_some]; exact Nat.le_refl _)) (h.inc k hk) (fun v => by rw [hp, carN_none (q := some (SPos.t2 i' hh kd, i)) rfl, carN_none rfl] <;> omega) h.ord
  | t3 i' hh x kd =>
    by_cases e : a.top i' = hh
    · have hb : bstep l k (.t3 i' hh x kd) i a b = (a.setTop i' (fol hh x), b, some (kd.after (hh % 4294967296 - 1), i)) := by
        unfold bstep SPos.exec
        simp only [e, if_true]
      rw [hb] at hs ⊢
      have hvs : ∀ L, lying (a.setTop i' (fol hh x)) L = lying a L := fun L => by unfold lying; rw [top_m]
      rcases hfit with ⟨rfl, rfl⟩ | ⟨rfl, rfl⟩
      · have hchg : L0 = (hh % 4294967296 - 1) :: L0' := by
          have := hchg
          simp only [Chg, e, and_self, if_true] at this
          exact this
        have hval : lying a L0 = a.m.getD (2 * (hh % 4294967296 - 1) + 1) 0 :: lying a L0' := by rw [hchg]; rfl
        refine h.mk' hk hp hs (fun _ _ _ _ _ => by rw [top_m]) (fun p' i'' e => by obtain ⟨rfl, rfl⟩ := Prod.mk.inj (Option.some.inj e); exact ⟨hil, trivial⟩) (fun _ _ => rfl) (hold' (by rw [cur_some]; exact Nat.le_refl _)) (h.inc k hk) (fun v => ?_) ?_
        · rw [hp, carN_none (q := some (SPos.t3 0 hh x .pop, i)) rfl, hvs, hval, carN_some (x := a.m.getD (2 * (hh % 4294967296 - 1) + 1) 0) (by show some _ = some _; rw [top_m]), List.count_cons]
          by_cases ev : a.m.getD (2 * (hh % 4294967296 - 1) + 1) 0 = v
          · simp only [ev, beq_self_eq_true, if_true]; omega
          · have : (a.m.getD (2 * (hh % 4294967296 - 1) + 1) 0 == v) = false := by simpa using ev
            simp only [this, ev, if_false, Bool.false_eq_true]; omega
        · rw [hvs]
          have := h.ord
          rw [hval] at this
          exact (List.pairwise_cons.1 this).2
      · have hchg : L0' = L0 := by
          have := hchg
          simp only [Chg, show ¬ (1 : Nat) = 0 from by decide, false_and, if_false] at this
          exact this
        subst hchg
        exact h.mk' hk hp hs (fun _ _ _ _ _ => by rw [top_m]) (fun p' i'' e => by obtain ⟨rfl, rfl⟩ := Prod.mk.inj (Option.some.inj e); exact ⟨hil, rfl⟩) (fun _ _ => rfl) (hold' (by rw [cur_some]; exact Nat.le_refl _)) (h.inc k hk) (fun v => by rw [hp, carN_none (q := some (SPos.t3 1 hh x _, i)) rfl, carN_none rfl, hvs] <;> omega) (by rw [hvs]; exact h.ord)
    · have hb : bstep l k (.t3 i' hh x kd) i a b = (a, b, some (.t1 i' kd, i)) := by
        unfold bstep SPos.exec
        simp only [e, if_false]
      have hchg : L0' = L0 := by
        have := hchg
        simp only [Chg, e, and_false, if_false] at this
        exact this
      subst hchg
      rw [hb] at hs ⊢
      exact h.mk' hk hp hs (fun _ _ _ _ _ => rfl) (fun p' i'' e => by obtain ⟨rfl, rfl⟩ := Prod.mk.inj (Option.some.inj e); exact ⟨hil, hfit⟩) (fun _ _ => rfl) (hold' (by rw [cur_some]; exact Nat.le_refl _)) (h.inc k hk) (fun v => by rw [hp, carN_none (q := some (SPos.t3 i' hh x kd, i)) rfl, carN_none rfl] <;> omega) h.ord
  | vst j v0 =>
    have hchg : L0' = L0 := hchg
    subst hchg
    have hb : bstep l k (.vst j v0) i a b = ({ a with m := a.m.set (2 * j + 1) v0 }, b, some (.g1 0 j .push, i)) := rfl
    rw [hb] at hs ⊢
    obtain ⟨o0, o1⟩ := h.s.held_out hk (BInv.pos hp) (j := j) rfl
    have hjn := h.s.held_lt hk (BInv.pos hp) (j := j) rfl
    have hlen : 2 * j + 1 < a.m.length := by rw [h.s.len]; omega
    have hvs : lying { a with m := a.m.set (2 * j + 1) v0 } L0' = lying a L0' := lying_same fun y hy => getD_odd_ne fun e => o0 (by rw [e]; exact hy)
    refine h.mk' hk hp hs (fun k' y hk' hne hy => getD_odd_ne fun e => ?_) (fun p' i'' e => by obtain ⟨rfl, rfl⟩ := Prod.mk.inj (Option.some.inj e); exact ⟨hil, .inl ⟨rfl, rfl, by rw [← hfit]; exact getD_odd_eq hlen⟩⟩) (fun _ _ => rfl) (hold' (by rw [cur_some]; exact Nat.le_refl _)) (h.inc k hk) (fun v => by rw [hp, carN_none (q := some (SPos.vst j v0, i)) rfl, carN_none rfl, hvs] <;> omega) (by rw [hvs]; exact h.ord)
    subst e
    cases hpk : posN pc k' with
    | none => rw [hpk] at hy; cases hy
    | some p' =>
      rw [hpk] at hy
      exact h.s.held_two hk (BInv.pos hp) (j := j) rfl hk' hne hpk hy
  | vld j =>
    have hchg : L0' = L0 := hchg
    subst hchg
    have hb : bstep l k (.vld j) i a b = (a, b, some (.g1 1 j (.pop (a.m.getD (2 * j + 1) 0)), i)) := rfl
    rw [hb] at hs ⊢
    exact h.mk' hk hp hs (fun _ _ _ _ _ => rfl) (fun p' i'' e => by obtain ⟨rfl, rfl⟩ := Prod.mk.inj (Option.some.inj e); exact ⟨hil, .inr ⟨⟨_, rfl⟩, rfl⟩⟩) (fun _ _ => rfl) (hold' (by rw [cur_some]; exact Nat.le_refl _)) (h.inc k hk) (fun v => by rw [hp, carN_some (q := (SPos.vld j, i)) rfl, carN_some (q := (SPos.g1 1 j (.pop (a.m.getD (2 * j + 1) 0)), i)) rfl] <;> omega) h.ord
  | g1 i' j r =>
    have hchg : L0' = L0 := hchg
    subst hchg
    have hb : bstep l k (.g1 i' j r) i a b = (a, b, some (.g2 i' j (a.top i') r, i)) := rfl
    rw [hb] at hs ⊢
    exact h.mk' hk hp hs (fun _ _ _ _ _ => rfl) (fun p' i'' e => by obtain ⟨rfl, rfl⟩ := Prod.mk.inj (Option.some.inj e); exact ⟨hil, hfit⟩) (fun _ _ => rfl) (hold' (by rw [cur_some]; exact Nat.le_refl _)) (h.inc k hk) (fun v => by rw [hp, show carN a (some (SPos.g1 i' j r, i)) v = carN a (some (SPos.g2 i' j (a.top i') r, i)) v from by cases r <;> rfl] <;> omega) h.ord
  | g2 i' j hh r =>
    have hchg : L0' = L0 := hchg
    subst hchg
    have hb : bstep l k (.g2 i' j hh r) i a b = ({ a with m := a.m.set (2 * j) (hh % 4294967296) }, b, some (.g3 i' j hh r, i)) := rfl
    rw [hb] at hs ⊢
    have hvs : lying { a with m := a.m.set (2 * j) (hh % 4294967296) } L0' = lying a L0' := lying_same fun y _ => getD_odd_even
    exact h.mk' hk hp hs (fun _ _ _ _ _ => getD_odd_even) (fun p' i'' e => by
      obtain ⟨rfl, rfl⟩ := Prod.mk.inj (Option.some.inj e)
      refine ⟨hil, ?_⟩
      have hfit : RdOk k i i' j a r := hfit
      show RdOk k i i' j _ r
      unfold RdOk at hfit ⊢
      rw [show ({ a with m := a.m.set (2 * j) (hh % 4294967296) } : SSt).m.getD (2 * j + 1) 0 = a.m.getD (2 * j + 1) 0 from getD_odd_even]
      exact hfit) (fun _ _ => rfl) (hold' (by rw [cur_some]; exact Nat.le_refl _)) (h.inc k hk) (fun v => by rw [hp, hvs, show carN a (some (SPos.g2 i' j hh r, i)) v = carN { a with m := a.m.set (2 * j) (hh % 4294967296) } (some (SPos.g3 i' j hh r, i)) v from by cases r <;> rfl] <;> omega) (by rw [hvs]; exact h.ord)
  | g3 i' j hh r =>
    by_cases e : a.top i' = hh
    · have hb : bstep l k (.g3 i' j hh r) i a b = (a.setTop i' (fol hh (j + 1)), set1 b k (bookUpd k i (.done r) (b k)), bookNext l k (i + 1)) := by
        unfold bstep SPos.exec
        simp only [e, if_true]
      rw [hb] at hs ⊢
      dsimp only at hs ⊢
      have hvs : ∀ L, lying (a.setTop i' (fol hh (j + 1))) L = lying a L := fun L => by unfold lying; rw [top_m]
      rcases hfit with ⟨rfl, rfl, hmv⟩ | ⟨⟨x, rfl⟩, rfl⟩
      · have hchg : L0' = j :: L0 := by
          have := hchg
          simp only [Chg, e, and_self, if_true] at this
          exact this
        have hval : lying a L0' = bnum k i :: lying a L0 := by rw [hchg, ← hmv]; rfl
        have hbk : set1 b k (bookUpd k i (.done .push) (b k)) k = ((b k).1 ++ [bnum k i], (b k).2) := set1_at
        refine h.mk' hk hp hs (fun _ _ _ _ _ => by rw [top_m]) (nextF _) (fun y hy => set1_ne hy) (fun y hy => ?_) ?_ (fun v => ?_) ?_
        · rw [hbk] at hy
          rcases List.mem_append.1 hy with hy | hy
          · exact hold' hcn y hy
          · exact ⟨i, by simpa using hy, hcn'⟩
        · rw [hbk]
          refine List.pairwise_append.2 ⟨h.inc k hk, by simp, fun y hy z hz => ?_⟩
          obtain ⟨i2, e1, e2⟩ := h.old k hk y hy
          have : z = bnum k i := by simpa using hz
          rw [e1, this]
          exact bnum_lt (by omega)
        · rw [hp, hbk, carN_none (q := some (SPos.g3 0 j hh .push, i)) rfl, next_car, hvs, hval]
          simp only [List.count_append, List.count_cons, List.count_nil]
          omega
        · rw [hvs, hval]
          refine List.pairwise_cons.2 ⟨fun y hy hd => ?_, h.ord⟩
          obtain ⟨k2, i2, hk2, e1, e2⟩ := h.pushed hy
          have hi9 : i < 900 := by have := h.short k; omega
          have hi2 : i2 < 900 := by have := h.short k2; have := cur_le h hk2; omega
          rw [bnum_div hi9, e1, bnum_div hi2] at hd
          subst hd
          rw [e1]
          exact bnum_lt (by omega)
      · have hchg : L0' = L0 := by
          have := hchg
          simp only [Chg, show ¬ (1 : Nat) = 0 from by decide, false_and, if_false] at this
          exact this
        subst hchg
        have hbk : set1 b k (bookUpd k i (.done (.pop x)) (b k)) k = ((b k).1, (b k).2 ++ [x]) := set1_at
        refine h.mk' hk hp hs (fun _ _ _ _ _ => by rw [top_m]) (nextF _) (fun y hy => set1_ne hy) (fun y hy => ?_) ?_ (fun v => ?_) (by rw [hvs]; exact h.ord)
        · rw [hbk] at hy; exact hold' hcn y hy
        · rw [hbk]; exact h.inc k hk
        · rw [hp, hbk, next_car, hvs, carN_some (q := (SPos.g3 1 j hh (.pop x), i)) (x := x) rfl]
          simp only [List.count_append, List.count_cons, List.count_nil, beq_iff_eq]
          omega
    · have hb : bstep l k (.g3 i' j hh r) i a b = (a, b, some (.g1 i' j r, i)) := by
        unfold bstep SPos.exec
        simp only [e, if_false]
      have hchg : L0' = L0 := by
        have := hchg
        simp only [Chg, e, and_false, if_false] at this
        exact this
      subst hchg
      rw [hb] at hs ⊢
      exact h.mk' hk hp hs (fun _ _ _ _ _ => rfl) (fun p' i'' e => by obtain ⟨rfl, rfl⟩ := Prod.mk.inj (Option.some.inj e); exact ⟨hil, hfit⟩) (fun _ _ => rfl) (hold' (by rw [cur_some]; exact Nat.le_refl _)) (h.inc k hk) (fun v => by rw [hp, show carN a (some (SPos.g3 i' j hh r, i)) v = carN a (some (SPos.g1 i' j r, i)) v from by cases r <;> rfl] <;> omega) h.ord
end
end Go.Proofs.Ytmcffabfghhpaaa
/- Plain words: a play that ends by itself, told apart from memory. No condition. -/
namespace Go.Proofs.Ytmcffabfghhpaaa
section
variable {Y : Core}
/-- A turn of a thread that stands at pc. -/
def PSt.turn (σ : PSt Y) (i : Nat) (pc : Y.Pc) : PSt Y := ⟨(Y.next pc σ.a).1, σ.ps.set i (Y.next pc σ.a).2, σ.tr ++ [(i, (Y.mark pc).1, (Y.mark pc).2)]⟩
/-- What every turn keeps, and by what it falls. -/
structure Falls (Inv : PSt Y → Prop) (Φ : PSt Y → Nat) : Prop where
  step : ∀ (σ : PSt Y) (i : Nat) (pc : Y.Pc), Inv σ → σ.ps[i]? = some (some pc) → Inv (σ.turn i pc) ∧ Φ (σ.turn i pc) < Φ σ
variable {Inv : PSt Y → Prop} {Φ : PSt Y → Nat}
/-- .. with turns enough. -/
structure Amid (Inv : PSt Y → Prop) (Φ : PSt Y → Nat) (σ : PSt Y) : Prop where
  inv : Inv σ
  few : Φ σ + σ.tr.length ≤ 16384
theorem Amid.take (F : Falls Inv Φ) {σ : PSt Y} (h : Amid Inv Φ σ) (k : Int) : Amid Inv Φ (takeF k σ).1 ∧ ((takeF k σ).2 = true → Φ (takeF k σ).1 < Φ σ) ∧ ((takeF k σ).2 = false → (takeF k σ).1 = σ ∧ ∀ pc, 0 ≤ k → σ.ps[k.toNat]? ≠ some (some pc)) := by
  by_cases hk : k < 0
  · have e : takeF k σ = (σ, false) := by unfold takeF; rw [if_pos hk]
    rw [e]
    exact ⟨h, by simp, fun _ => ⟨rfl, fun pc h0 => by omega⟩⟩
  · obtain ⟨i, rfl⟩ : ∃ i : Nat, k = i := ⟨k.toNat, by omega⟩
    have hi : (i : Int).toNat = i := by simp
    cases hp : σ.ps[i]? with
    | none =>
      rw [take_no (.inl hp), hi, hp]
      exact ⟨h, by simp, fun _ => ⟨rfl, by simp⟩⟩
    | some q =>
      cases q with
      | none =>
        rw [take_no (.inr (.inl hp)), hi, hp]
        exact ⟨h, by simp, fun _ => ⟨rfl, by simp⟩⟩
      | some pc =>
        obtain ⟨f1, f2⟩ := F.step σ i pc h.inv hp
        have hl := h.few
        have e := take_go' hp (by omega)
        rw [e]
        refine ⟨⟨f1, ?_⟩, fun _ => f2, by simp⟩
        show Φ (σ.turn i pc) + (σ.tr ++ [_]).length ≤ _
        rw [List.length_append]
        simp only [List.length_cons, List.length_nil]
        omega
theorem Amid.order (F : Falls Inv Φ) : ∀ (l : List Int) {σ : PSt Y}, Amid Inv Φ σ → Amid Inv Φ (orderF l σ)
  | [], _, h => h
  | k :: l, _, h => Amid.order F l (h.take F k).1
theorem Amid.pass (F : Falls Inv Φ) : ∀ (l : List Nat) {σ : PSt Y} (b : Bool), Amid Inv Φ σ → let x := l.foldl (fun x (k : Nat) => ((takeF (k : Int) x.1).1, (takeF (k : Int) x.1).2 || x.2)) (σ, b)
    Amid Inv Φ x.1 ∧ Φ x.1 ≤ Φ σ ∧ (x.2 = true → b = true ∨ Φ x.1 < Φ σ) ∧ (x.2 = false → x.1 = σ ∧ ∀ k ∈ l, ∀ pc, σ.ps[k]? ≠ some (some pc))
  | [], _, _, h => ⟨h, Nat.le_refl _, .inl, fun _ => ⟨rfl, by simp⟩⟩
  | k :: l, σ, b, h => by
    obtain ⟨h1, h2, h3⟩ := h.take F (k : Int)
    have h4 := Amid.pass F l ((takeF (k : Int) σ).2 || b) h1
    simp only [List.foldl_cons] at h4 ⊢
    generalize takeF (k : Int) σ = z at h1 h2 h3 h4 ⊢
    obtain ⟨σ1, b1⟩ := z
    simp only at h1 h2 h3 h4 ⊢
    obtain ⟨q1, q2, q3, q4⟩ := h4
    cases b1 with
    | true =>
      have := h2 rfl
      refine ⟨q1, by omega, fun _ => .inr (by omega), fun e => ?_⟩
      exfalso
      have key : ∀ (l : List Nat) (σ : PSt Y), (l.foldl (fun x (k : Nat) => ((takeF (k : Int) x.1).1, (takeF (k : Int) x.1).2 || x.2)) (σ, true)).2 = true := fun l => by
        induction l with
        | nil => exact fun _ => rfl
        | cons j l ih =>
          intro σ
          simp only [List.foldl_cons, Bool.or_true]
          exact ih _
      simp only [Bool.true_or] at e
      rw [key] at e
      cases e
    | false =>
      obtain ⟨rfl, h5⟩ := h3 rfl
      simp only [Bool.false_or] at q1 q2 q3 q4 ⊢
      refine ⟨q1, q2, q3, fun e => ?_⟩
      obtain ⟨q5, q6⟩ := q4 e
      refine ⟨q5, fun j hj pc => ?_⟩
      rcases List.mem_cons.1 hj with rfl | hj
      · have := h5 pc (by omega)
        simpa using this
      · exact q6 j hj pc
theorem Amid.rest (F : Falls Inv Φ) : ∀ (n : Nat) {σ : PSt Y}, Amid Inv Φ σ → Φ σ < n → Amid Inv Φ (restF n σ) ∧ ∀ p ∈ (restF n σ).ps, p = none
  | 0, _, _, h => by omega
  | n + 1, σ, h, hn => by
    obtain ⟨h1, h2, h3, h4⟩ := Amid.pass F (List.range σ.ps.length) false h
    show Amid Inv Φ (if (passF (List.range σ.ps.length) σ).2 then restF n (passF (List.range σ.ps.length) σ).1 else (passF (List.range σ.ps.length) σ).1) ∧ ∀ p ∈ (if (passF (List.range σ.ps.length) σ).2 then restF n (passF (List.range σ.ps.length) σ).1 else (passF (List.range σ.ps.length) σ).1).ps, p = none
    change Amid Inv Φ (passF (List.range σ.ps.length) σ).1 at h1
    change Φ (passF (List.range σ.ps.length) σ).1 ≤ Φ σ at h2
    change (passF (List.range σ.ps.length) σ).2 = true → _ ∨ Φ (passF (List.range σ.ps.length) σ).1 < Φ σ at h3
    change (passF (List.range σ.ps.length) σ).2 = false → (passF (List.range σ.ps.length) σ).1 = σ ∧ _ at h4
    generalize passF (List.range σ.ps.length) σ = z at h1 h2 h3 h4 ⊢
    obtain ⟨σ1, b1⟩ := z
    simp only at h1 h2 h3 h4 ⊢
    cases b1 with
    | true =>
      have := (h3 rfl).resolve_left (by simp)
      simp only [if_true]
      exact Amid.rest F n h1 (by omega)
    | false =>
      obtain ⟨rfl, h5⟩ := h4 rfl
      simp only [Bool.false_eq_true, if_false]
      refine ⟨h1, fun p hp => ?_⟩
      obtain ⟨i, hi⟩ := List.getElem?_of_mem hp
      cases p with
      | none => rfl
      | some pc => exact absurd hi (h5 i (List.mem_range.2 (List.getElem?_eq_some_iff.1 hi).1) pc)
/-- A play that falls ends by itself. -/
theorem play_ends (F : Falls Inv Φ) {starts : List (Y.St → Y.St × Option Y.Pc)} {order : List Int} {a : Y.St} (h0 : Inv (startF starts ⟨a, [], []⟩)) (hΦ : Φ (startF starts ⟨a, [], []⟩) ≤ 16384) : Amid Inv Φ (playF starts order a) ∧ ∀ p ∈ (playF starts order a).ps, p = none := by
  have ht : ∀ (l : List (Y.St → Y.St × Option Y.Pc)) (σ : PSt Y), (startF l σ).tr = σ.tr := fun l => by
    induction l with
    | nil => exact fun _ => rfl
    | cons f l ih => exact fun σ => ih _
  have h1 : Amid Inv Φ (startF starts ⟨a, [], []⟩) := ⟨h0, by rw [ht]; simpa using hΦ⟩
  have h2 := h1.order F order
  have := h2.few
  exact Amid.rest F 16385 h2 (by omega)
end
end Go.Proofs.Ytmcffabfghhpaaa
/- Plain words: threads that push and pop by any order end by themselves, and their books are right. No condition. -/
namespace Go.Proofs.Ytmcffabfghhpaaa
open Go.ConcN (sumTo upd sumTo_upd upd_ne upd_same le_sumTo sumTo_congr)
/-- One who has seen a word that is gone. -/
def stale (a : SSt) (i h : Nat) : Nat := if a.top i = h then 0 else 3
/-- What a call has still before it. -/
def wayP (a : SSt) : SPos → Nat
  | .t1 _ _ => 43
  | .t2 i h _ => 42 + stale a i h
  | .t3 i h _ _ => 41 + stale a i h
  | .vst _ _ => 25
  | .vld _ => 25
  | .g1 _ _ _ => 23
  | .g2 i _ h _ => 22 + stale a i h
  | .g3 i _ h _ => 21 + stale a i h
def wayN (a : SSt) (len : Nat) : Option (SPos × Nat) → Nat
  | none => 0
  | some (p, i) => 43 * (len - i - 1) + wayP a p
theorem stale_le {a a' : SSt} {i h : Nat} : stale a' i h ≤ stale a i h + 3 := by unfold stale; split <;> split <;> omega
theorem way_le (a a' : SSt) (len : Nat) (q : Option (SPos × Nat)) : wayN a' len q ≤ wayN a len q + 3 := by
  cases q with
  | none => simp [wayN]
  | some x =>
    obtain ⟨p, i⟩ := x
    cases p <;> simp only [wayN, wayP] <;> first | omega | (rename_i i' _ h' _; have := stale_le (a := a) (a' := a') (i := i') (h := h'); omega) | (rename_i i' h' _; have := stale_le (a := a) (a' := a') (i := i') (h := h'); omega) | (rename_i i' h' _ _; have := stale_le (a := a) (a' := a') (i := i') (h := h'); omega)
theorem way_same {a a' : SSt} (h : ∀ i, a'.top i = a.top i) (len : Nat) (q : Option (SPos × Nat)) : wayN a' len q = wayN a len q := by
  cases q with
  | none => rfl
  | some x =>
    obtain ⟨p, i⟩ := x
    cases p <;> simp only [wayN, wayP, stale, h]
theorem sum_le {f g : Nat → Nat} {k m c : Nat} (hk : k < m) (h : ∀ j, j < m → j ≠ k → g j ≤ f j + c) : sumTo m g + f k ≤ sumTo m f + g k + c * m := by
  have key : ∀ M, M ≤ m → (if k < M then sumTo M g + f k ≤ sumTo M f + g k + c * M else sumTo M g ≤ sumTo M f + c * M) := by
    intro M
    induction M with
    | zero => intro _; simp [sumTo]
    | succ M ih =>
      intro hM
      have ih := ih (by omega)
      rw [Nat.mul_succ]
      simp only [sumTo]
      by_cases e : k < M
      · rw [if_pos e] at ih
        rw [if_pos (by omega)]
        have := h M (by omega) (by omega)
        omega
      · rw [if_neg e] at ih
        by_cases e2 : M = k
        · subst e2
          rw [if_pos (by omega)]
          omega
        · rw [if_neg (by omega)]
          have := h M (by omega) e2
          omega
  have := key m (Nat.le_refl _)
  rw [if_pos hk] at this
  exact this
section
variable {n m : Nat} {l : Nat → List Bool} {a : SSt} {b : Nat → List Nat × List Nat} {k i : Nat} {p : SPos}
theorem next_way {a : SSt} (hi : i < (l k).length) : wayN a (l k).length (bookNext l k (i + 1)) ≤ 43 * ((l k).length - i - 1) := by
  cases h : bookNext l k (i + 1) with
  | none => simp [wayN]
  | some q =>
    obtain ⟨p', i'⟩ := q
    obtain ⟨e1, e2, i2, kd, e3, _⟩ := bookNext_some h
    simp only at e1 e2 e3
    subst e1 e3
    simp only [wayN, wayP]
    omega
theorem fol_div {t x : Nat} (hx : x < 4294967296) : fol t x / 4294967296 ≤ t / 4294967296 + 1 := by
  unfold fol
  have := Nat.mod_le (t / 4294967296 + 1) 4294967296
  omega
theorem top_set {i' t : Nat} (j : Nat) (h : t / 4294967296 ≤ a.top i' / 4294967296 + 1) (hi : i' < 2) : (a.setTop i' t).top j / 4294967296 ≤ a.top j / 4294967296 + 1 := by
  unfold SSt.setTop SSt.top at *
  rcases top_cases i' hi with rfl | rfl <;> by_cases e : j = 0 <;> simp [e] at * <;> omega
/-- A turn takes from the way; where a top changes it takes much, and a tag grows by one. -/
theorem way_step (hi : i < (l k).length) (ho : POk n a p) (hn : n ≤ 1024) (hx : ∀ i h x kd, p = .t3 i h x kd → a.top i = h → x < 4294967296) :
    ((∀ y, (bstep l k p i a b).1.top y = a.top y) ∧ wayN (bstep l k p i a b).1 (l k).length (bstep l k p i a b).2.2 < wayN a (l k).length (some (p, i))) ∨
    ((∀ y, (bstep l k p i a b).1.top y / 4294967296 ≤ a.top y / 4294967296 + 1) ∧ wayN (bstep l k p i a b).1 (l k).length (bstep l k p i a b).2.2 + 12 < wayN a (l k).length (some (p, i))) := by
  cases p with
  | t1 i' kd =>
    left
    by_cases e : a.top i' % 4294967296 = 0
    · have hb : bstep l k (.t1 i' kd) i a b = (a, set1 b k (b k), bookNext l k (i + 1)) := by
        unfold bstep SPos.exec
        simp only [e, if_true]
        rfl
      rw [hb]
      have := next_way (l := l) (k := k) (a := a) hi
      refine ⟨fun _ => rfl, ?_⟩
      simp only [wayN, wayP] at this ⊢
      omega
    · have hb : bstep l k (.t1 i' kd) i a b = (a, b, some (.t2 i' (a.top i') kd, i)) := by
        unfold bstep SPos.exec
        simp only [e, if_false]
      rw [hb]
      refine ⟨fun _ => rfl, ?_⟩
      simp only [wayN, wayP, stale, if_true]
      omega
  | t2 i' h kd =>
    left
    refine ⟨fun _ => rfl, ?_⟩
    show wayN a _ (some (.t3 i' h _ kd, i)) < _
    simp only [wayN, wayP]
    omega
  | t3 i' h x kd =>
    by_cases e : a.top i' = h
    · have hb : bstep l k (.t3 i' h x kd) i a b = (a.setTop i' (fol h x), b, some (kd.after (h % 4294967296 - 1), i)) := by
        unfold bstep SPos.exec
        simp only [e, if_true]
      rw [hb]
      right
      refine ⟨fun j => top_set j (by rw [e]; exact fol_div (hx _ _ _ _ rfl e)) ho.1, ?_⟩
      have : wayP (a.setTop i' (fol h x)) (kd.after (h % 4294967296 - 1)) = 25 := by cases kd <;> rfl
      simp only [wayN, this]
      simp only [wayP, stale, e, if_true]
      omega
    · have hb : bstep l k (.t3 i' h x kd) i a b = (a, b, some (.t1 i' kd, i)) := by
        unfold bstep SPos.exec
        simp only [e, if_false]
      rw [hb]
      left
      refine ⟨fun _ => rfl, ?_⟩
      simp only [wayN, wayP, stale, e, if_false]
      omega
  | vst j v =>
    left
    refine ⟨fun _ => rfl, ?_⟩
    show 43 * _ + 23 < 43 * _ + 25
    omega
  | vld j =>
    left
    refine ⟨fun _ => rfl, ?_⟩
    show 43 * _ + 23 < 43 * _ + 25
    omega
  | g1 i' j r =>
    left
    refine ⟨fun _ => rfl, ?_⟩
    show wayN a _ (some (.g2 i' j (a.top i') r, i)) < _
    simp only [wayN, wayP, stale, if_true]
    omega
  | g2 i' j h r =>
    left
    refine ⟨fun _ => rfl, ?_⟩
    show 43 * _ + (21 + stale a i' h) < 43 * _ + (22 + stale a i' h)
    omega
  | g3 i' j h r =>
    by_cases e : a.top i' = h
    · have hb : bstep l k (.g3 i' j h r) i a b = (a.setTop i' (fol h (j + 1)), set1 b k (bookUpd k i (.done r) (b k)), bookNext l k (i + 1)) := by
        unfold bstep SPos.exec
        simp only [e, if_true]
      rw [hb]
      right
      have hj := ho.2.1
      refine ⟨fun y => top_set y (by rw [e]; exact fol_div (by omega)) ho.1, ?_⟩
      have := next_way (l := l) (k := k) (a := a.setTop i' (fol h (j + 1))) hi
      simp only [wayN, wayP, stale, e, if_true] at this ⊢
      omega
    · have hb : bstep l k (.g3 i' j h r) i a b = (a, b, some (.g1 i' j r, i)) := by
        unfold bstep SPos.exec
        simp only [e, if_false]
      rw [hb]
      left
      refine ⟨fun _ => rfl, ?_⟩
      simp only [wayN, wayP, stale, e, if_false]
      omega
/-- All their ways. -/
def ways (m : Nat) (l : Nat → List Bool) (a : SSt) (pc : Nat → Option (SPos × Nat)) : Nat := sumTo m fun k => wayN a (l k).length (pc k)
/-- .. with few enough tags. -/
structure OInv (n m : Nat) (l : Nat → List Bool) (a : SSt) (b : Nat → List Nat × List Nat) (pc : Nat → Option (SPos × Nat)) : Prop where
  b : ∃ L0 L1, BInv n m l a b pc L0 L1
  tag : ∀ i, a.top i / 4294967296 + ways m l a pc ≤ 100000
theorem OInv.step {pc : Nat → Option (SPos × Nat)} (h : OInv n m l a b pc) (hm : m ≤ 4) (hk : k < m) (hp : pc k = some (p, i)) :
    OInv n m l (bstep l k p i a b).1 (bstep l k p i a b).2.1 (upd pc k (bstep l k p i a b).2.2) ∧ ways m l (bstep l k p i a b).1 (upd pc k (bstep l k p i a b).2.2) < ways m l a pc := by
  obtain ⟨L0, L1, hB⟩ := h.b
  have ht : ∀ i, a.top i / 4294967296 < 4294967295 := fun i => by have := h.tag i; omega
  have hB' := hB.step hk hp ht
  have hok := hB.s.ok k hk p (BInv.pos hp)
  have hil := (hB.fit k hk p i hp).1
  have hw := way_step (b := b) hil hok hB.s.n24 (fun i' h' x kd e eh => by
    subst e
    have := hok.2.2.2 eh
    have := hB.s.bn (h' % 4294967296 - 1)
    have := hB.s.n24
    omega)
  obtain ⟨a', ha'⟩ : ∃ a', a' = (bstep l k p i a b).1 := ⟨_, rfl⟩
  obtain ⟨q, hq⟩ : ∃ q, q = (bstep l k p i a b).2.2 := ⟨_, rfl⟩
  rw [← ha', ← hq] at hw
  rw [← ha', ← hq] at hB' ⊢
  have e1 : wayN a' (l k).length (upd pc k q k) = wayN a' (l k).length q := by rw [upd_same]
  have e2 : wayN a (l k).length (pc k) = wayN a (l k).length (some (p, i)) := by rw [hp]
  rcases hw with ⟨w1, w2⟩ | ⟨w1, w2⟩
  · have h1 := sum_le (f := fun k => wayN a (l k).length (pc k)) (g := fun j => wayN a' (l j).length (upd pc k q j)) (c := 0) hk (fun j hj hne => by
      simp only [upd_ne _ _ hne]
      rw [way_same w1]
      exact Nat.le_refl _)
    simp only [e1, e2] at h1
    have hlt : ways m l a' (upd pc k q) < ways m l a pc := by unfold ways; omega
    exact ⟨⟨hB', fun j => by rw [w1]; have := h.tag j; omega⟩, hlt⟩
  · have h1 := sum_le (f := fun k => wayN a (l k).length (pc k)) (g := fun j => wayN a' (l j).length (upd pc k q j)) (c := 3) hk (fun j hj hne => by
      simp only [upd_ne _ _ hne]
      exact way_le _ _ _ _)
    simp only [e1, e2] at h1
    have hlt : ways m l a' (upd pc k q) < ways m l a pc := by unfold ways; omega
    exact ⟨⟨hB', fun j => by have := h.tag j; have := w1 j; omega⟩, hlt⟩
end
end Go.Proofs.Ytmcffabfghhpaaa
/- Plain words: a play of threads that push and pop, from its start to its end. No condition. -/
namespace Go.Proofs.Ytmcffabfghhpaaa
open Go.ConcN (sumTo upd sumTo_upd upd_ne upd_same le_sumTo sumTo_congr)
/-- Where each thread is. -/
def pcOf (ps : List (Option (SPos × (Nat × Nat)))) (k : Nat) : Option (SPos × Nat) := match ps[k]? with
  | some (some p) => some (p.1, p.2.2)
  | _ => none
section
variable {B : Nat} {bk : Nat → Nat} {l : Nat → List Bool} {S N sz m : Nat} {old : Old} {n k i : Nat} {p : SPos} {a : SSt} {b : Nat → List Nat × List Nat}
theorem book_next : (bK B bk l S N sz m old).core.next (p, (k, i)) (a, b) = (((bstep l k p i a b).1, (bstep l k p i a b).2.1), (bstep l k p i a b).2.2.map fun q => (q.1, (k, q.2))) := by
  show (bK B bk l S N sz m old).after (k, i) (p.exec a) b = _
  unfold bstep
  obtain ⟨a', r⟩ := p.exec a
  cases r with
  | inl p' => rfl
  | inr r => rfl
/-- A play of theirs. -/
abbrev OSt (B : Nat) (bk : Nat → Nat) (l : Nat → List Bool) (S N sz m : Nat) (old : Old) := PSt (bK B bk l S N sz m old).core
structure PInv (n : Nat) (σ : OSt B bk l S N sz m old) : Prop where
  len : σ.ps.length = m
  own : ∀ (k : Nat) (p : SPos × (Nat × Nat)), σ.ps[k]? = some (some p) → p.2.1 = k
  o : OInv n m l σ.a.1 σ.a.2 (pcOf σ.ps)
def PWay (σ : OSt B bk l S N sz m old) : Nat := ways m l σ.a.1 (pcOf σ.ps)
theorem pcOf_at {ps : List (Option (SPos × (Nat × Nat)))} {k' : Nat} (h : ps[k]? = some (some (p, (k', i)))) : pcOf ps k = some (p, i) := by
  unfold pcOf
  rw [h]
theorem pcOf_set {ps : List (Option (SPos × (Nat × Nat)))} {q : Option (SPos × Nat)} (hk : k < ps.length) : pcOf (ps.set k (q.map fun q => (q.1, (k, q.2)))) = upd (pcOf ps) k q := by
  funext j
  by_cases e : j = k
  · subst e
    rw [upd_same]
    unfold pcOf
    rw [List.getElem?_set_self hk]
    cases q <;> rfl
  · rw [upd_ne _ _ e]
    unfold pcOf
    rw [List.getElem?_set_ne (fun h => e h.symm)]
theorem once_falls (hm : m ≤ 4) : Falls (Y := (bK B bk l S N sz m old).core) (PInv n) PWay where
  step := fun σ k pc h hp => by
    obtain ⟨p, k', i⟩ := pc
    have hk' : k' = k := h.own k (p, k', i) hp
    subst hk'
    have hlt : k' < σ.ps.length := (List.getElem?_eq_some_iff.1 hp).1
    have hkm : k' < m := by rw [← h.len]; exact hlt
    have hpc : pcOf σ.ps k' = some (p, i) := pcOf_at hp
    have hs := h.o.step hm hkm hpc
    have e : (bK B bk l S N sz m old).core.next (p, k', i) σ.a = _ := book_next (a := σ.a.1) (b := σ.a.2)
    have e1 : (σ.turn k' (p, k', i)).a = ((bstep l k' p i σ.a.1 σ.a.2).1, (bstep l k' p i σ.a.1 σ.a.2).2.1) := by unfold PSt.turn; rw [e]
    have e2 : (σ.turn k' (p, k', i)).ps = σ.ps.set k' ((bstep l k' p i σ.a.1 σ.a.2).2.2.map fun q => (q.1, (k', q.2))) := by unfold PSt.turn; rw [e]; rfl
    have e3 : pcOf (σ.turn k' (p, k', i)).ps = upd (pcOf σ.ps) k' (bstep l k' p i σ.a.1 σ.a.2).2.2 := by rw [e2]; exact pcOf_set hlt
    refine ⟨⟨by rw [e2, List.length_set]; exact h.len, fun j p' hp' => ?_, by rw [e1, e3]; exact hs.1⟩, by unfold PWay; rw [e1, e3]; exact hs.2⟩
    rw [e2] at hp'
    by_cases ej : j = k'
    · subst ej
      rw [List.getElem?_set_self hlt] at hp'
      obtain ⟨q, _, rfl⟩ := Option.map_eq_some_iff.1 (Option.some.inj hp')
      rfl
    · rw [List.getElem?_set_ne (fun h => ej h.symm)] at hp'
      exact h.own j p' hp'
theorem startF_keep {Y : Core} {α : Type} (f : α → Option Y.Pc) : ∀ (L : List α) (σ : PSt Y), startF (L.map fun x => fun a => (a, f x)) σ = ⟨σ.a, σ.ps ++ L.map f, σ.tr⟩
  | [], σ => by simp [startF]
  | x :: L, σ => by
    show startF (L.map fun x => fun a => (a, f x)) ⟨σ.a, σ.ps ++ [f x], σ.tr⟩ = _
    rw [startF_keep f L]
    simp
theorem Ch.fresh {n : Nat} (hn0 : 0 < n) (hn : n ≤ 1024) : Ch (memK n (n - 1)) 1 (List.range n) := by
  have key : ∀ d k, k + d = n → ∀ t, t % 4294967296 = (if k < n then k + 1 else 0) → Ch (memK n (n - 1)) t ((List.range n).drop k) := by
    intro d
    induction d with
    | zero =>
      intro k hk t ht
      rw [List.drop_of_length_le (by simp; omega)]
      rw [if_neg (by omega)] at ht
      exact ht
    | succ d ih =>
      intro k hk t ht
      rw [if_pos (by omega)] at ht
      rw [List.drop_eq_getElem_cons (by simp; omega)]
      simp only [List.getElem_range]
      refine ⟨ht, by rw [memK_len]; omega, ih (k + 1) (by omega) _ ?_⟩
      rw [memK_get]
      split <;> split <;> omega
  have := key n 0 (by omega) 1 (by rw [if_pos hn0])
  simpa using this
theorem count_range (j : Nat) : ∀ n : Nat, (List.range n).count j = if j < n then 1 else 0
  | 0 => by simp
  | n + 1 => by
    rw [List.range_succ, List.count_append, count_range j n, List.count_cons, List.count_nil]
    by_cases e : n = j
    · subst e; simp
    · have : (n == j) = false := by simpa using e
      have e1 : (if (n == j) = true then 1 else 0) = 0 := by simp [this]
      rw [e1]
      by_cases e2 : j < n
      · rw [if_pos e2, if_pos (by omega)]
      · rw [if_neg e2, if_neg (by omega)]
theorem sum_zero {f : Nat → Nat} : ∀ {m : Nat}, (∀ j, j < m → f j = 0) → sumTo m f = 0
  | 0, _ => rfl
  | m + 1, h => by simp only [sumTo]; rw [sum_zero fun j hj => h j (by omega), h m (by omega)]
/-- How they begin. -/
theorem once_begin {n : Nat} (hn0 : 0 < n) (hn : n ≤ 1024) (hl : ∀ k, (l k).length ≤ 8) (hm : m ≤ 4) {tr : List Turned} {ps : List (Option (SPos × (Nat × Nat)))} (hps : ps = (List.range m).map fun k => bookF l k 0) : PInv n (⟨((⟨0, 1, memK n (n - 1)⟩ : SSt), fun _ => ([], [])), ps, tr⟩ : OSt B bk l S N sz m old) ∧
    PWay (⟨((⟨0, 1, memK n (n - 1)⟩ : SSt), fun _ => ([], [])), ps, tr⟩ : OSt B bk l S N sz m old) ≤ 2000 := by
  have hat : ∀ k, k < m → ps[k]? = some (bookF l k 0) := fun k hk => by rw [hps]; simp [hk]
  have hpc : ∀ k, k < m → pcOf ps k = bookNext l k 0 := fun k hk => by
    unfold pcOf
    rw [hat k hk]
    unfold bookF
    cases bookNext l k 0 <;> rfl
  have hhold : ∀ k, k < m → ∀ j, holdN (posN (pcOf ps) k) j = 0 := fun k hk j => by
    unfold posN
    rw [hpc k hk]
    refine hold_zero ?_
    cases h : bookNext l k 0 with
    | none => simp
    | some q =>
      obtain ⟨_, _, i', kd, e, _⟩ := bookNext_some h
      simp [e, holdP]
  have hcar : ∀ k, k < m → ∀ v, carN (⟨0, 1, memK n (n - 1)⟩ : SSt) (pcOf ps k) v = 0 := fun k hk v => by
    rw [hpc k hk]
    refine carN_none ?_
    cases h : bookNext l k 0 with
    | none => rfl
    | some q =>
      obtain ⟨_, _, i', kd, e, _⟩ := bookNext_some h
      simp [e, carry]
  have hw : ways m l (⟨0, 1, memK n (n - 1)⟩ : SSt) (pcOf ps) ≤ 2000 := by
    have := Go.ConcN.sumTo_le (f := fun k => wayN (⟨0, 1, memK n (n - 1)⟩ : SSt) (l k).length (pcOf ps k)) (c := 344) (j := m) fun k hk => by
      show wayN _ _ (pcOf ps k) ≤ 344
      rw [hpc k hk]
      cases h : bookNext l k 0 with
      | none => simp [wayN]
      | some q =>
        obtain ⟨p', i'⟩ := q
        obtain ⟨e1, e2, i2, kd, e3, _⟩ := bookNext_some h
        have := hl k
        simp only at e1 e3
        subst e1 e3
        simp only [wayN, wayP]
        omega
    unfold ways
    have h2 : 344 * m ≤ 344 * 4 := Nat.mul_le_mul_left _ hm
    omega
  refine ⟨⟨by show ps.length = m; rw [hps]; simp, fun k p hp => ?_, ⟨⟨[], List.range n, ?_⟩, fun i => ?_⟩⟩, hw⟩
  · have hp : ps[k]? = some (some p) := hp
    have hk : k < m := by have := (List.getElem?_eq_some_iff.1 hp).1; rw [hps] at this; simpa using this
    rw [hat k hk] at hp
    obtain ⟨q, _, rfl⟩ := Option.map_eq_some_iff.1 (Option.some.inj hp)
    rfl
  · refine ⟨⟨hn, memK_len n _, rfl, Ch.fresh hn0 hn, fun j hj => ?_, fun j hj => (by cases hj), fun j hj => (by simpa using hj), fun j => ?_, fun k hk p hp => ?_⟩, fun k hk p i hp => ?_, fun k hk x hx => (by cases hx), fun k hk => List.Pairwise.nil, fun v => ?_, List.Pairwise.nil, fun k => (by have := hl k; omega)⟩
    · rw [sum_zero fun k hk => hhold k hk j]
      rw [count_range, if_pos hj]
      simp
    · show (memK n (n - 1)).getD (2 * j) 0 ≤ n
      rw [List.getD_eq_getElem?_getD]
      by_cases e : 2 * j < (memK n (n - 1)).length
      · rw [List.getElem?_eq_getElem e, memK_get]
        simp only [Option.getD_some]
        split <;> omega
      · rw [List.getElem?_eq_none (by omega)]; simp
    · unfold posN at hp
      rw [hpc k hk] at hp
      obtain ⟨q, hq, rfl⟩ := Option.map_eq_some_iff.1 hp
      obtain ⟨_, _, i', kd, e, hkd⟩ := bookNext_some hq
      rw [e]
      show i' < 2
      rcases hkd with ⟨_, h⟩ | ⟨_, h⟩ <;> omega
    · have hp : pcOf ps k = some (p, i) := hp
      rw [hpc k hk] at hp
      obtain ⟨e1, e2, i', kd, e3, hkd⟩ := bookNext_some hp
      simp only at e1 e3
      subst e1 e3
      exact ⟨e2, hkd⟩
    · show sumTo m (fun _ => List.count v []) = sumTo m (fun _ => List.count v []) + sumTo m (fun k => carN _ (pcOf ps k) v) + List.count v (lying _ [])
      rw [sum_zero (f := fun k => carN (⟨0, 1, memK n (n - 1)⟩ : SSt) (pcOf ps k) v) fun k hk => hcar k hk v]
      simp [lying]
  · have hw : ways m l (⟨0, 1, memK n (n - 1)⟩ : SSt) (pcOf ps) ≤ 2000 := hw
    show (⟨0, 1, memK n (n - 1)⟩ : SSt).top i / 4294967296 + ways m l (⟨0, 1, memK n (n - 1)⟩ : SSt) (pcOf ps) ≤ 100000
    unfold SSt.top
    split <;> simp <;> omega
/-- How they end. -/
structure ODone (n m : Nat) (a : SSt) (b : Nat → List Nat × List Nat) (L0 L1 : List Nat) : Prop where
  stk : StkInv n a.t0 a.t1 a.m L0 L1 (lying a L0)
  old : ∀ k, k < m → ∀ x ∈ (b k).1, ∃ i, x = bnum k i ∧ i < 900
  inc : ∀ k, k < m → (b k).1.Pairwise (· < ·)
  vals : ∀ v, sumTo m (fun k => (b k).1.count v) = sumTo m (fun k => (b k).2.count v) + (lying a L0).count v
  ord : (lying a L0).Pairwise fun x y => x / 1000 = y / 1000 → y < x
  len : a.m.length = 2 * n
theorem BInv.done {pc : Nat → Option (SPos × Nat)} {L0 L1 : List Nat} (h : BInv n m l a b pc L0 L1) (hp : ∀ k, k < m → pc k = none) (hlt : ∀ j, j < n → a.m.getD (2 * j + 1) 0 < 18446744073709551616) : ODone n m a b L0 L1 := by
  have hhold : ∀ j, sumTo m (fun k => holdN (posN pc k) j) = 0 := fun j => sum_zero fun k hk => by unfold posN; rw [hp k hk]; rfl
  have hcnt : ∀ j, j < n → (L0 ++ L1).count j = 1 := fun j hj => by
    have := h.s.cnt j hj
    rw [hhold] at this
    rw [List.count_append]; omega
  have hmem : ∀ j ∈ L0 ++ L1, j < n := fun j hj => (List.mem_append.1 hj).elim (h.s.lt0 j) (h.s.lt1 j)
  have hperm : (L0 ++ L1).Perm (List.range n) := List.perm_iff_count.2 fun j => by
    rw [count_range]
    by_cases e : j < n
    · rw [if_pos e, hcnt j e]
    · rw [if_neg e, List.count_eq_zero.2 fun hj => e (hmem j hj)]
  refine ⟨⟨h.s.c0, h.s.c1, hperm.nodup_iff.2 List.nodup_range, hmem, by rw [hperm.length_eq, List.length_range], fun k hk => ?_, List.length_map .., fun v hv => ?_⟩, fun k hk x hx => ?_, h.inc, fun v => ?_, h.ord, h.s.len⟩
  · have hj := h.s.lt0 _ (List.getElem_mem hk)
    have h1 : 2 * L0[k] + 1 < a.m.length := by rw [h.s.len]; omega
    refine ⟨h1, by unfold lying; simpa using hk, ?_⟩
    unfold lying
    rw [List.getElem_map, List.getD_eq_getElem?_getD, List.getElem?_eq_getElem h1]
    rfl
  · obtain ⟨j, hj, rfl⟩ := List.mem_map.1 hv
    exact hlt j (h.s.lt0 j hj)
  · obtain ⟨i, h1, h2⟩ := h.old k hk x hx
    refine ⟨i, h1, ?_⟩
    have := h.short k
    have : cur l pc k = (l k).length := by unfold cur; rw [hp k hk]
    omega
  · have h1 := h.vals v
    rw [sum_zero (f := fun k => carN a (pc k) v) fun k hk => by rw [hp k hk]; rfl] at h1
    omega
/-- ████ EVERY ORDER ENDS, AND THE BOOKS ARE RIGHT. ████ -/
theorem once_play {ths : List (Thr (bK B bk l S N sz m old).core)} (hths : ths.map (·.start) = (List.range m).map fun k => fun σ => (σ, bookF l k 0)) (hn0 : 0 < n) (hn : n ≤ 1024) (hl : ∀ k, (l k).length ≤ 8) (hm : m ≤ 4) (order : List Int)
    (σ : OSt B bk l S N sz m old) (hσ : σ = playF (ths.map (·.start)) order ((⟨0, 1, memK n (n - 1)⟩ : SSt), fun _ => ([], []))) :
    (∀ p ∈ σ.ps, p = none) ∧ ((∀ j, j < n → σ.a.1.m.getD (2 * j + 1) 0 < 18446744073709551616) → ∃ L0 L1, ODone n m σ.a.1 σ.a.2 L0 L1) := by
  have hst : startF (ths.map (·.start)) (⟨((⟨0, 1, memK n (n - 1)⟩ : SSt), fun _ => ([], [])), [], []⟩ : OSt B bk l S N sz m old) = ⟨((⟨0, 1, memK n (n - 1)⟩ : SSt), fun _ => ([], [])), [] ++ (List.range m).map fun k => bookF l k 0, []⟩ := by
    rw [hths]
    exact startF_keep (Y := (bK B bk l S N sz m old).core) (fun k => bookF l k 0) (List.range m) _
  obtain ⟨q1, q2⟩ := once_begin (B := B) (bk := bk) (l := l) (S := S) (N := N) (sz := sz) (m := m) (old := old) (tr := []) hn0 hn hl hm (ps := [] ++ (List.range m).map fun k => bookF l k 0) (by simp)
  obtain ⟨h1, h2⟩ := play_ends (once_falls (B := B) (bk := bk) (l := l) (S := S) (N := N) (sz := sz) (old := old) (n := n) hm) (starts := ths.map (·.start)) (order := order) (a := ((⟨0, 1, memK n (n - 1)⟩ : SSt), fun _ => ([], []))) (by rw [hst]; exact q1) (by rw [hst]; exact Nat.le_trans q2 (by decide))
  subst hσ
  refine ⟨h2, fun hlt => ?_⟩
  obtain ⟨L0, L1, hB⟩ := h1.inv.o.b
  refine ⟨L0, L1, hB.done (fun k hk => ?_) hlt⟩
  have hk' := hk
  rw [← h1.inv.len] at hk'
  have e := (List.getElem?_eq_getElem hk').trans (congrArg some (h2 _ (List.getElem_mem hk')))
  have key : ∀ ps : List (Option (SPos × (Nat × Nat))), ps[k]? = some none → pcOf ps k = none := fun ps e => by unfold pcOf; rw [e]
  exact key _ e
end
end Go.Proofs.Ytmcffabfghhpaaa
/- Plain words: what settled asks of books and of what is left. No condition. -/
namespace Go.Proofs.Ytmcffabfghhpaaa
open Go.ConcN (sumTo le_sumTo)
def pushedS (m : Nat) (b : Nat → List Nat × List Nat) (v : Nat) : Prop := ∃ k, k < m ∧ v ∈ (b k).1
def poppedS (b : Nat → List Nat × List Nat) (k i v : Nat) : Prop := (∃ k', k' < k ∧ v ∈ (b k').2) ∨ v ∈ (b k).2.take i
/-- Each number that was popped was pushed, and popped once; what is left was pushed, and never popped; it lies in order; nothing is lost. -/
structure Settles (m : Nat) (b : Nat → List Nat × List Nat) (rest : List Nat) : Prop where
  popped : ∀ k i (h : i < (b k).2.length), k < m → pushedS m b (b k).2[i] ∧ ¬ poppedS b k i (b k).2[i]
  left : ∀ i (h : i < rest.length), pushedS m b rest[i] ∧ ¬ (∃ k, k < m ∧ rest[i] ∈ (b k).2) ∧ rest[i] ∉ rest.take i
  ord : rest.Pairwise fun x y => x / 1000 = y / 1000 → y < x
  all : ∀ v, pushedS m b v → (∃ k, k < m ∧ v ∈ (b k).2) ∨ v ∈ rest
  lt : ∀ v, pushedS m b v → v < 18446744073709551616
theorem sum_pos {f : Nat → Nat} : ∀ {m : Nat}, 0 < sumTo m f → ∃ k, k < m ∧ 0 < f k
  | 0, h => absurd h (by simp [sumTo])
  | m + 1, h => by
    by_cases e : 0 < f m
    · exact ⟨m, by omega, e⟩
    · simp only [sumTo] at h
      obtain ⟨k, h1, h2⟩ := sum_pos (f := f) (m := m) (by omega)
      exact ⟨k, by omega, h2⟩
theorem sum_one {f : Nat → Nat} : ∀ {m : Nat}, (∀ k, k < m → f k ≤ 1) → (∀ k k', k < m → k' < m → 0 < f k → 0 < f k' → k = k') → sumTo m f ≤ 1
  | 0, _, _ => by simp [sumTo]
  | m + 1, h1, h2 => by
    have ih := sum_one (f := f) (m := m) (fun k hk => h1 k (by omega)) (fun k k' hk hk' => h2 k k' (by omega) (by omega))
    have h3 := h1 m (by omega)
    simp only [sumTo]
    by_cases e : 0 < f m
    · have : sumTo m f = 0 := by
        by_cases e2 : 0 < sumTo m f
        · obtain ⟨k, hk, hf⟩ := sum_pos e2
          have := h2 k m (by omega) (by omega) hf e
          omega
        · omega
      omega
    · omega
theorem count_inc {l : List Nat} (h : l.Pairwise (· < ·)) (v : Nat) : l.count v ≤ 1 := by
  induction l with
  | nil => simp
  | cons x l ih =>
    obtain ⟨h1, h2⟩ := List.pairwise_cons.1 h
    rw [List.count_cons]
    by_cases e : x = v
    · subst e
      have : l.count x = 0 := List.count_eq_zero.2 fun hm => Nat.lt_irrefl _ (h1 x hm)
      simp [this]
    · have : (x == v) = false := by simpa using e
      have := ih h2
      simp [*]
theorem count_two {l : List Nat} {i : Nat} (h : i < l.length) (hm : l[i] ∈ l.take i) : 2 ≤ l.count l[i] := by
  have h1 := List.take_append_drop i l
  have h2 : l.count l[i] = (l.take i).count l[i] + (l.drop i).count l[i] := by rw [← List.count_append, h1]
  have h3 : 0 < (l.take i).count l[i] := List.count_pos_iff.2 hm
  have h4 : 0 < (l.drop i).count l[i] := List.count_pos_iff.2 ((List.drop_eq_getElem_cons h) ▸ List.mem_cons_self)
  omega
theorem ODone.settles {n m : Nat} {a : SSt} {b : Nat → List Nat × List Nat} {L0 L1 : List Nat} (h : ODone n m a b L0 L1) (hm : m ≤ 4) : Settles m b (lying a L0) := by
  have div : ∀ k v, k < m → v ∈ (b k).1 → v / 1000 = k := fun k v hk hv => by
    obtain ⟨i, rfl, hi⟩ := h.old k hk v hv
    exact bnum_div hi
  have one : ∀ v, sumTo m (fun k => (b k).1.count v) ≤ 1 := fun v => sum_one (fun k hk => count_inc (h.inc k hk) v) fun k k' hk hk' h1 h2 => by
    rw [← div k v hk (List.count_pos_iff.1 h1), ← div k' v hk' (List.count_pos_iff.1 h2)]
  have psh : ∀ v, 0 < sumTo m (fun k => (b k).1.count v) → pushedS m b v := fun v hv => by
    obtain ⟨k, hk, h1⟩ := sum_pos hv
    exact ⟨k, hk, List.count_pos_iff.1 h1⟩
  have hsp : ∀ v, pushedS m b v → 0 < sumTo m (fun k => (b k).1.count v) := fun v ⟨k, hk, hv⟩ => by
    have h1 := le_sumTo (f := fun k => (b k).1.count v) hk
    have h2 := List.count_pos_iff.2 hv
    omega
  refine ⟨fun k i hi hk => ?_, fun i hi => ?_, h.ord, fun v hv => ?_, fun v ⟨k, hk, hv⟩ => ?_⟩
  · obtain ⟨v, hv⟩ : ∃ v, v = (b k).2[i] := ⟨_, rfl⟩
    have h1 := le_sumTo (f := fun k => (b k).2.count v) hk
    have h2 : 0 < (b k).2.count v := List.count_pos_iff.2 (by rw [hv]; exact List.getElem_mem hi)
    have h3 := h.vals v
    have h4 := one v
    rw [← hv]
    refine ⟨psh v (by omega), ?_⟩
    rintro (⟨k', hk', hm'⟩ | hm')
    · have h5 := two_sum (f := fun k => (b k).2.count v) (i := k') (i' := k) (m := m) (by omega) hk (by omega)
      have h6 : 0 < (b k').2.count v := List.count_pos_iff.2 hm'
      omega
    · rw [hv] at hm'
      have := count_two hi hm'
      rw [← hv] at this
      omega
  · obtain ⟨v, hv⟩ : ∃ v, v = (lying a L0)[i] := ⟨_, rfl⟩
    have h2 : 0 < (lying a L0).count v := List.count_pos_iff.2 (by rw [hv]; exact List.getElem_mem hi)
    have h3 := h.vals v
    have h4 := one v
    rw [← hv]
    refine ⟨psh v (by omega), ?_, fun hm' => ?_⟩
    · rintro ⟨k, hk, hm'⟩
      have h5 := le_sumTo (f := fun k => (b k).2.count v) hk
      have h6 : 0 < (b k).2.count v := List.count_pos_iff.2 hm'
      omega
    · rw [hv] at hm'
      have := count_two hi hm'
      rw [← hv] at this
      omega
  · have h1 := hsp v hv
    have h3 := h.vals v
    by_cases e : 0 < sumTo m (fun k => (b k).2.count v)
    · obtain ⟨k, hk, hc⟩ := sum_pos e
      exact .inl ⟨k, hk, List.count_pos_iff.1 hc⟩
    · exact .inr (List.count_pos_iff.1 (by omega))
  · obtain ⟨i, rfl, hi⟩ := h.old k hk v hv
    unfold bnum
    omega
end Go.Proofs.Ytmcffabfghhpaaa
/- Plain words: a map from numbers to numbers, told by a function. No condition. -/
namespace Go.Proofs.Ytmcffabfghhpaaa
open Go.RowKit
def set2 (f : Nat → Option Nat) (k : Nat) (x : Option Nat) : Nat → Option Nat := fun l => if l = k then x else f l
theorem set2_same (f : Nat → Option Nat) (k : Nat) (x : Option Nat) : set2 f k x k = x := if_pos rfl
theorem set2_ne (f : Nat → Option Nat) {k l : Nat} (x : Option Nat) (h : l ≠ k) : set2 f k x l = f l := if_neg h
theorem keyed_u64 : Maps.Keyed Try.prog 30 := Maps.int_keyed Try.underlying30
theorem wf64 (x : Nat) (h : x < 18446744073709551616) : (Lit.int .u64 (x : Int)).wf = true := by simp [Lit.wf, IntKind.min, IntKind.max, IntKind.signed, IntKind.bits]; omega
theorem key64 (x : Nat) (h : x < 18446744073709551616) : keyOf Try.prog 30 (.int .u64 (x : Int)) = some (.int .u64 (x : Int)) := by
  have hw := wf64 x h
  unfold keyOf
  rw [Try.underlying30]
  simp [mapKey, Try.underlying30, hw]
/-- Block b is a map from numbers that reads as f, of n entries; its values are of kind q. -/
def MapN (E : TypeId) (q : IntKind) (w : World) (b : Nat) (f : Nat → Option Nat) (n : Nat) : Prop :=
  ∃ D : DataW Unit, w.ownsMap Try.prog 30 (plainElem Try.prog E) b n D ∧ Maps.size D = n ∧ ∀ k : Nat, k < 18446744073709551616 → Maps.has D (.int .u64 (k : Int)) = (f k).isSome ∧ ∀ x, f k = some x → D.atKey (.int .u64 (k : Int)) (.lit (.int q 0)) = .lit (.int q x)
theorem owns_tight {K : TypeId} {w : World} {b n : Nat} {R : Value → Option (DataW Unit × List MemPlace)} {D : DataW Unit} (h : w.ownsMap Try.prog K R b n D) : w.ownsMap Try.prog K R b (Maps.size D) D := by
  obtain ⟨es, clock, hb, F, hs, rfl⟩ := h
  exact ⟨es, clock, hb, F, by simp [Maps.size, length_sorted], rfl⟩
theorem zero_q {E : TypeId} {q : IntKind} (h : (Try.prog.info? E).map (fun i => i.zero) = some (some (.int q 0))) (w : World) : (zeroValue E).run Try.prog w = .ok (.int q 0) w := by
  obtain ⟨i, h1, h2⟩ : ∃ i, Try.prog.info? E = some i ∧ i.zero = some (.int q 0) := by
    cases h' : Try.prog.info? E with
    | none => simp [h'] at h
    | some i => exact ⟨i, rfl, by simpa [h'] using h⟩
  simp [zeroValue, typeInfo, h1, h2]
section
variable {E T : TypeId} {q : IntKind} {w : World} {b n : Nat} {f : Nat → Option Nat}
theorem MapN.made (E : TypeId) (q : IntKind) (w : World) : MapN E q (w.alloc (.map #[] 0)) w.heap.size (fun _ => none) 0 :=
  ⟨.map [], World.ownsMap_made w _ _ _, rfl, fun k _ => ⟨rfl, fun x h => by cases h⟩⟩
theorem MapN.lt (h : MapN E q w b f n) : b < w.heap.size := by
  obtain ⟨D, h1, _⟩ := h
  exact h1.lt
theorem MapN.of_heap {w' : World} (h : MapN E q w b f n) (e : w'.heap[b]? = w.heap[b]?) : MapN E q w' b f n := by
  obtain ⟨D, ⟨es, clock, hb, r⟩, h2, h3⟩ := h
  exact ⟨D, ⟨es, clock, e.trans hb, r⟩, h2, h3⟩
theorem MapN.sm {F : Nat → Prop} {w' : World} (h : MapN E q w b f n) (k : Sm F w w') (hf : ¬ F b) : MapN E q w' b f n := h.of_heap (k.block b h.lt hf)
/-- A look-up that tells if it is there. -/
theorem MapN.look_ok (h : MapN E q w b f n) (hE : Try.prog.underlying E = some (.int q)) (hz : (Try.prog.info? E).map (fun i => i.zero) = some (some (.int q 0))) (ht : Try.prog.underlying T = some (.map 30 E)) {k : Nat} (hk : k < 18446744073709551616) :
    (Instr.lookup T (.map (some b)) (.int .u64 (k : Int)) true).run Try.prog w = .ok (.tuple #[.int q ((f k).getD 0 : Nat), .bool (f k).isSome]) w := by
  obtain ⟨D, h1, h2, h3⟩ := h
  obtain ⟨v, ps, hrun, hv⟩ := h1.look_ok keyed_u64 ht (zero_q hz w) (plainElem_int hE (by cases q <;> decide)) (key64 k hk)
  obtain ⟨c, rfl, hc, hwc⟩ := plainElem_int_inv hE hv
  simp only [Prod.mk.injEq] at hc
  rw [hrun, (h3 k hk).1]
  cases hf : f k with
  | none =>
    have e := Maps.atKey_of_not_has (D := D) (k := .int .u64 (k : Int)) (by rw [(h3 k hk).1, hf]; rfl) (.lit (.int q 0))
    rw [hc.1] at e
    simp at e
    simp [e]
  | some x =>
    have e := (h3 k hk).2 x hf
    rw [hc.1] at e
    simp at e
    simp [e]
/-- A look-up. -/
theorem MapN.look (h : MapN E q w b f n) (hE : Try.prog.underlying E = some (.int q)) (hz : (Try.prog.info? E).map (fun i => i.zero) = some (some (.int q 0))) (ht : Try.prog.underlying T = some (.map 30 E)) {k : Nat} (hk : k < 18446744073709551616) :
    (Instr.lookup T (.map (some b)) (.int .u64 (k : Int)) false).run Try.prog w = .ok (.int q ((f k).getD 0 : Nat)) w := by
  obtain ⟨D, h1, h2, h3⟩ := h
  obtain ⟨c, hrun, hc, hwc⟩ := h1.lookup_int keyed_u64 ht hE (zero_q hz w) (key64 k hk)
  rw [hrun]
  cases hf : f k with
  | none =>
    have e := Maps.atKey_of_not_has (D := D) (k := .int .u64 (k : Int)) (by rw [(h3 k hk).1, hf]; rfl) (.lit (.int q 0))
    rw [hc] at e
    simp at e
    simp [e]
  | some x =>
    have e := (h3 k hk).2 x hf
    rw [hc] at e
    simp at e
    simp [e]
/-- A store. -/
theorem MapN.store (h : MapN E q w b f n) (hE : Try.prog.underlying E = some (.int q)) (ht : Try.prog.underlying T = some (.map 30 E)) (hn : n < 1000000) {k : Nat} (hk : k < 18446744073709551616) (x : Nat) (hx : (Lit.int q (x : Int)).wf = true) :
    ∃ w', (Instr.mapUpdate T (.map (some b)) (.int .u64 (k : Int)) (.int q (x : Int))).run Try.prog w = .ok () w' ∧ MapN E q w' b (set2 f k (some x)) (if (f k).isSome then n else n + 1) ∧ Sm (fun c => c = b) w w' := by
  obtain ⟨D, h1, h2, h3⟩ := h
  obtain ⟨w', hrun, hown, hturn⟩ := h1.store keyed_u64 ht (by unfold maxLen; omega) (key64 k hk) (plainElem_int hE hx)
  have ht2 := h1.tidy keyed_u64
  have hs := Maps.size_put (D := D) (k := .int .u64 (k : Int)) ht2 (.lit (.int q x))
  rw [(h3 k hk).1, h2] at hs
  have hg := hturn.grown
  refine ⟨w', hrun, ⟨_, by have := owns_tight hown; rw [hs] at this; exact this, hs, fun l hl => ?_⟩, ⟨hg.os, hg.tape, hg.output, hg.size, fun j hj hf => hg.block j hj (fun e => hf (by simpa using e))⟩⟩
  by_cases e : l = k
  · subst e
    rw [set2_same]
    exact ⟨by rw [Maps.has_put_same ht2.isMap (keyed_u64.key (key64 l hk))]; rfl, fun y hy => by cases hy; exact Maps.atKey_put_same ht2.isMap (keyed_u64.key (key64 l hk)) _ _⟩
  · have ne : (Lit.int .u64 (l : Int)) ≠ Lit.int .u64 (k : Int) := fun h => e (by simp at h; omega)
    rw [set2_ne _ _ e, Maps.has_put_other ne, Maps.atKey_put_other ne]
    exact h3 l hl
end
end Go.Proofs.Ytmcffabfghhpaaa
/- Plain words: patchbaylaw08.settled, walked alone: true where books and rest settle. No condition. -/
namespace Go.Proofs.Ytmcffabfghhpaaa
open Go.RowKit
set_option linter.unusedVariables false
set_option linter.unusedSimpArgs false
theorem info_i64 : (Try.prog.info? 3).map (fun i => i.zero) = some (some (.int .i64 0)) := by kernel_rfl
theorem info_z64 : (Try.prog.info? 30).map (fun i => i.zero) = some (some (.int .u64 0)) := by kernel_rfl
theorem wf_small (x : Nat) (h : x < 9223372036854775808) : (Lit.int .i64 (x : Int)).wf = true := by simp [Lit.wf, IntKind.min, IntKind.max, IntKind.signed, IntKind.bits]; omega
theorem wpList_storeN {ops : Array Oper} {rest : List Oper} {o : Oper} {a : Act} {w : World} {Q : Exit → Act → World → Prop} (hgd : o.guard = none) {E T : TypeId} {q : IntKind} (m y v : Operand) (ho : o.op = .mapUpdate T m y v)
    (hE : Try.prog.underlying E = some (.int q)) (ht : Try.prog.underlying T = some (.map 30 E)) {b n : Nat} {f : Nat → Option Nat} (hm : a.eval m = .map (some b)) (hM : MapN E q w b f n) (hn : n < 1000000) {k x : Nat} (hk : k < 18446744073709551616) (hy : a.eval y = .int .u64 (k : Int)) (hv : a.eval v = .int q (x : Int))
    (hx : (Lit.int q (x : Int)).wf = true)
    (h : ∀ w' n', n' ≤ n + 1 → MapN E q w' b (set2 f k (some x)) n' → Sm (fun c => c = b) w w' → wpList Try.prog ops Q rest (a.put o.dst undef) w') : wpList Try.prog ops Q (o :: rest) a w :=
  wpList_plain hgd fun _ hK => by
    obtain ⟨w', hrun, h1, h2⟩ := hM.store hE ht hn hk x hx
    unfold Oper.wp
    simp [execOp, ho, hm, hy, hv, hrun, Result.andThen]
    exact hK _ _ (h w' _ (by split <;> omega) h1 h2)
/-- Books in memory. -/
structure Bks (G m : Nat) (bk : Nat → Nat) (b : Nat → List Nat × List Nat) (γ : Nat → Value × Value × Nat) (w : World) : Prop where
  ptr : ∀ k, k < m → w.cell? ⟨G, k, none⟩ = some (.pointer (some ⟨bk k, 0, none⟩))
  rep : ∀ k, k < m → BRep (bk k) (b k, γ k) w
  ltG : G < w.heap.size
section
variable {G m : Nat} {bk : Nat → Nat} {b : Nat → List Nat × List Nat} {γ : Nat → Value × Value × Nat} {w w' : World}
theorem cell_sm {F : Nat → Prop} {a : Addr} {v : Value} (h : w.cell? a = some v) (k : Sm F w w') (hl : a.block < w.heap.size) (hf : ¬ F a.block) : w'.cell? a = some v := by
  unfold World.cell? at *
  rw [k.block _ hl hf]
  exact h
theorem Bks.new (h : Bks G m bk b γ w) (k : Sm (fun c => w.heap.size ≤ c) w w') : Bks G m bk b γ w' := by
  refine ⟨fun i hi => cell_sm (h.ptr i hi) k h.ltG (by have := h.ltG; show ¬ w.heap.size ≤ G; omega), fun i hi => (h.rep i hi).frame fun x hx => ?_, Nat.lt_of_lt_of_le h.ltG k.size⟩
  have hx' : x < w.heap.size := by
    rcases hx with rfl | hx | hx
    · exact (h.rep i hi).row.lt
    · exact (own_lo (h.rep i hi).q1 hx).2
    · exact (own_lo (h.rep i hi).q2 hx).2
  exact k.block x hx' (by show ¬ w.heap.size ≤ x; omega)
/-- A number in an own row. -/
theorem u64s_at {u : World} {B : Nat} {v : Value} {xs : List Nat} (h : u.ownsRow B 30 1 v xs.length (u64s xs)) {i : Nat} (hi : i < xs.length) : ∃ g c, v = .slice (some ⟨g, 0, none⟩) xs.length c ∧ u.cell? ⟨g, i, none⟩ = some (.int .u64 ((xs[i] : Nat) : Int)) := by
  obtain ⟨g, cap, e⟩ := own_form h (by omega)
  refine ⟨g, cap, e, ?_⟩
  subst e
  have := h.cells (g := g) rfl i (.int .u64 ((xs[i] : Nat) : Int)) (by simp [u64s, hi])
  rcases i with _ | i <;> simpa [Addr.add] using this
end
def pushedTo (b : Nat → List Nat × List Nat) (k i v : Nat) : Prop := (∃ k', k' < k ∧ v ∈ (b k').1) ∨ v ∈ (b k).1.take i
open Classical in
/-- What the map holds while the pushed are laid down. -/
def Left1 (b : Nat → List Nat × List Nat) (k i : Nat) (f : Nat → Option Nat) : Prop := ∀ v, v < 18446744073709551616 → f v = if pushedTo b k i v then some 1 else none
theorem Left1.step {b : Nat → List Nat × List Nat} {k i : Nat} {f : Nat → Option Nat} (h : Left1 b k i f) (hi : i < (b k).1.length) : Left1 b k (i + 1) (set2 f (b k).1[i] (some 1)) := fun v hv => by
  have e : pushedTo b k (i + 1) v ↔ v = (b k).1[i] ∨ pushedTo b k i v := by
    unfold pushedTo
    rw [List.take_succ_eq_append_getElem hi]
    simp only [List.mem_append, List.mem_singleton]
    constructor
    · rintro (h | h | h)
      · exact .inr (.inl h)
      · exact .inr (.inr h)
      · exact .inl h
    · rintro (h | h | h)
      · exact .inr (.inr h)
      · exact .inl h
      · exact .inr (.inl h)
  by_cases ev : v = (b k).1[i]
  · have hp := e.2 (.inl ev)
    subst ev
    rw [set2_same, if_pos hp]
  · rw [set2_ne _ _ ev, h v hv]
    by_cases hp : pushedTo b k i v
    · rw [if_pos hp, if_pos (e.2 (.inr hp))]
    · rw [if_neg hp, if_neg fun h => (e.1 h).elim ev hp]
theorem Left1.next {b : Nat → List Nat × List Nat} {k : Nat} {f : Nat → Option Nat} (h : Left1 b k (b k).1.length f) : Left1 b (k + 1) 0 f := fun v hv => by
  rw [h v hv]
  have e : pushedTo b k (b k).1.length v ↔ pushedTo b (k + 1) 0 v := by
    unfold pushedTo
    rw [List.take_length]
    simp only [List.take_zero, List.not_mem_nil, or_false]
    constructor
    · rintro (⟨k', h1, h2⟩ | h)
      · exact ⟨k', by omega, h2⟩
      · exact ⟨k, by omega, h⟩
    · rintro ⟨k', h1, h2⟩
      by_cases e : k' = k
      · subst e; exact .inr h2
      · exact .inl ⟨k', by omega, h2⟩
  by_cases hp : pushedTo b k (b k).1.length v
  · rw [if_pos hp, if_pos (e.1 hp)]
  · rw [if_neg hp, if_neg fun h => hp (e.2 h)]
open Classical in
/-- What the map holds while the popped are struck out. -/
def Left2 (m : Nat) (b : Nat → List Nat × List Nat) (k i : Nat) (f : Nat → Option Nat) : Prop := ∀ v, v < 18446744073709551616 → f v = if pushedS m b v then some (if poppedS b k i v then 0 else 1) else none
theorem Left1.done {m : Nat} {b : Nat → List Nat × List Nat} {f : Nat → Option Nat} (h : Left1 b m 0 f) : Left2 m b 0 0 f := fun v hv => by
  rw [h v hv]
  have e : pushedTo b m 0 v ↔ pushedS m b v := by unfold pushedTo pushedS; simp
  have e2 : ¬ poppedS b 0 0 v := by unfold poppedS; simp
  by_cases hp : pushedTo b m 0 v
  · rw [if_pos hp, if_pos (e.1 hp), if_neg e2]
  · rw [if_neg hp, if_neg fun h => hp (e.2 h)]
theorem Left2.one {m : Nat} {b : Nat → List Nat × List Nat} {rest : List Nat} {k i : Nat} {f : Nat → Option Nat} (h : Left2 m b k i f) (hS : Settles m b rest) (hk : k < m) (hi : i < (b k).2.length) : f (b k).2[i] = some 1 := by
  obtain ⟨h1, h2⟩ := hS.popped k i hi hk
  rw [h _ (hS.lt _ h1), if_pos h1, if_neg h2]
theorem Left2.step {m : Nat} {b : Nat → List Nat × List Nat} {rest : List Nat} {k i : Nat} {f : Nat → Option Nat} (h : Left2 m b k i f) (hS : Settles m b rest) (hk : k < m) (hi : i < (b k).2.length) : Left2 m b k (i + 1) (set2 f (b k).2[i] (some 0)) := fun v hv => by
  have e : poppedS b k (i + 1) v ↔ v = (b k).2[i] ∨ poppedS b k i v := by
    unfold poppedS
    rw [List.take_succ_eq_append_getElem hi]
    simp only [List.mem_append, List.mem_singleton]
    constructor
    · rintro (h | h | h)
      · exact .inr (.inl h)
      · exact .inr (.inr h)
      · exact .inl h
    · rintro (h | h | h)
      · exact .inr (.inr h)
      · exact .inl h
      · exact .inr (.inl h)
  by_cases ev : v = (b k).2[i]
  · have hp := e.2 (.inl ev)
    subst ev
    rw [set2_same, if_pos (hS.popped k i hi hk).1, if_pos hp]
  · rw [set2_ne _ _ ev, h v hv]
    by_cases hq : poppedS b k i v
    · rw [if_pos hq, if_pos (e.2 (.inr hq))]
    · rw [if_neg hq, if_neg fun h => (e.1 h).elim ev hq]
theorem Left2.next {m : Nat} {b : Nat → List Nat × List Nat} {k : Nat} {f : Nat → Option Nat} (h : Left2 m b k (b k).2.length f) : Left2 m b (k + 1) 0 f := fun v hv => by
  rw [h v hv]
  have e : poppedS b k (b k).2.length v ↔ poppedS b (k + 1) 0 v := by
    unfold poppedS
    rw [List.take_length]
    simp only [List.take_zero, List.not_mem_nil, or_false]
    constructor
    · rintro (⟨k', h1, h2⟩ | h)
      · exact ⟨k', by omega, h2⟩
      · exact ⟨k, by omega, h⟩
    · rintro ⟨k', h1, h2⟩
      by_cases e : k' = k
      · subst e; exact .inr h2
      · exact .inl ⟨k', by omega, h2⟩
  by_cases hp : poppedS b k (b k).2.length v
  · rw [if_pos hp, if_pos (e.1 hp)]
  · rw [if_neg hp, if_neg fun h => hp (e.2 h)]
def gone (m : Nat) (b : Nat → List Nat × List Nat) (rest : List Nat) (i v : Nat) : Prop := (∃ k, k < m ∧ v ∈ (b k).2) ∨ v ∈ rest.take i
open Classical in
/-- What the map holds while the rest is struck out. -/
def Left3 (m : Nat) (b : Nat → List Nat × List Nat) (rest : List Nat) (i : Nat) (f : Nat → Option Nat) : Prop := ∀ v, v < 18446744073709551616 → f v = if pushedS m b v then some (if gone m b rest i v then 0 else 1) else none
/-- What was seen of each thread last. -/
def Last3 (rest : List Nat) (i : Nat) (g : Nat → Option Nat) : Prop := ∀ d x, g d = some x → x ∈ rest.take i ∧ x / 1000 = d
theorem Left2.done {m : Nat} {b : Nat → List Nat × List Nat} {rest : List Nat} {f : Nat → Option Nat} (h : Left2 m b m 0 f) : Left3 m b rest 0 f := fun v hv => by
  rw [h v hv]
  have e : poppedS b m 0 v ↔ gone m b rest 0 v := by unfold poppedS gone; simp
  by_cases hp : poppedS b m 0 v
  · rw [if_pos hp, if_pos (e.1 hp)]
  · rw [if_neg hp, if_neg fun h => hp (e.2 h)]
section
variable {m : Nat} {b : Nat → List Nat × List Nat} {rest : List Nat} {i : Nat} {f g : Nat → Option Nat}
theorem Left3.one (h : Left3 m b rest i f) (hS : Settles m b rest) (hi : i < rest.length) : f rest[i] = some 1 := by
  obtain ⟨h1, h2, h3⟩ := hS.left i hi
  rw [h _ (hS.lt _ h1), if_pos h1, if_neg fun h => h.elim h2 h3]
theorem Left3.step (h : Left3 m b rest i f) (hS : Settles m b rest) (hi : i < rest.length) : Left3 m b rest (i + 1) (set2 f rest[i] (some 0)) := fun v hv => by
  have e : gone m b rest (i + 1) v ↔ v = rest[i] ∨ gone m b rest i v := by
    unfold gone
    rw [List.take_succ_eq_append_getElem hi]
    simp only [List.mem_append, List.mem_singleton]
    constructor
    · rintro (h | h | h)
      · exact .inr (.inl h)
      · exact .inr (.inr h)
      · exact .inl h
    · rintro (h | h | h)
      · exact .inr (.inr h)
      · exact .inl h
      · exact .inr (.inl h)
  by_cases ev : v = rest[i]
  · have hp := e.2 (.inl ev)
    subst ev
    rw [set2_same, if_pos (hS.left i hi).1, if_pos hp]
  · rw [set2_ne _ _ ev, h v hv]
    by_cases hq : gone m b rest i v
    · rw [if_pos hq, if_pos (e.2 (.inr hq))]
    · rw [if_neg hq, if_neg fun h => (e.1 h).elim ev hq]
/-- In the end all is struck out. -/
theorem Left3.all (h : Left3 m b rest rest.length f) (hS : Settles m b rest) {v : Nat} (hv : pushedS m b v) : f v = some 0 := by
  have hg : gone m b rest rest.length v := (hS.all v hv).imp id fun h => by rw [List.take_length]; exact h
  rw [h v (hS.lt v hv), if_pos hv, if_pos hg]
theorem Last3.start : Last3 rest 0 fun _ => none := fun d x h => by cases h
theorem Last3.step (h : Last3 rest i g) (hi : i < rest.length) : Last3 rest (i + 1) (set2 g (rest[i] / 1000) (some rest[i])) := fun d x hx => by
  have ht := List.take_succ_eq_append_getElem hi
  by_cases e : d = rest[i] / 1000
  · subst e
    rw [set2_same] at hx
    obtain rfl := Option.some.inj hx
    exact ⟨ht ▸ List.mem_append.2 (.inr (List.mem_singleton.2 rfl)), rfl⟩
  · rw [set2_ne _ _ e] at hx
    exact ⟨ht ▸ List.mem_append.2 (.inl (h d x hx).1), (h d x hx).2⟩
/-- A later one is less. -/
theorem Last3.less (h : Last3 rest i g) (hS : Settles m b rest) (hi : i < rest.length) {x : Nat} (hx : g (rest[i] / 1000) = some x) : rest[i] < x := by
  obtain ⟨h1, h2⟩ := h _ _ hx
  obtain ⟨j, hj, rfl⟩ := List.getElem_of_mem h1
  have hji : j < i := by simp at hj; omega
  rw [List.getElem_take] at h2 ⊢
  exact List.pairwise_iff_getElem.1 hS.ord j i (by omega) hi hji h2
end
end Go.Proofs.Ytmcffabfghhpaaa
/- Plain words: patchbaylaw08.settled, walked alone: true where books and rest settle. No condition. -/
namespace Go.Proofs.Ytmcffabfghhpaaa
open Go.RowKit
set_option linter.unusedVariables false
set_option linter.unusedSimpArgs false
set_option maxRecDepth 100000 in
set_option maxHeartbeats 3200000 in
theorem settled_c {G gc m : Nat} {bk : Nat → Nat} {b : Nat → List Nat × List Nat} {γ : Nat → Value × Value × Nat} {rest : List Nat} {vr : Value} {R0 : Nat} (w : World) (hm : m ≤ 8) (hB : Bks G m bk b γ w) (hr : w.ownsRow R0 30 1 vr rest.length (u64s rest)) (hrl : rest.length ≤ 50000)
    (hlen : ∀ k, k < m → (b k).1.length ≤ 5000 ∧ (b k).2.length ≤ 5000) (hS : Settles m b rest) :
    Calls Try.prog 55 #[.slice (some ⟨G, 0, none⟩) m gc, vr] w fun e w' => e = .returned (.bool true) ∧ Sm (fun _ => False) w w' := by
  have HB := Lib.hid hB
  have HR := Lib.hid hr
  have HL := Lib.hid hlen
  have HS := Lib.hid hS
  obtain ⟨ra, rc, hvr⟩ : ∃ a c, vr = .slice a rest.length c := own_form0 hr
  clear hB hr hlen hS
  subst hvr
  have hmm : ∀ W : World, (Instr.makeMap 186 none).run Try.prog W = .ok (.map (some W.heap.size)) (W.alloc (.map #[] 0)) := fun W => run_makeMap _ W
  have hmm2 : ∀ W : World, (Instr.makeMap 187 none).run Try.prog W = .ok (.map (some W.heap.size)) (W.alloc (.map #[] 0)) := fun W => run_makeMap _ W
  go_enter Try.func55, Try.ntmps55
  go_wp2
  obtain ⟨M, hM⟩ : ∃ M, M = w.heap.size := ⟨_, rfl⟩
  have N0 : Hid (MapN 3 .i64 (w.alloc (.map #[] 0)) M (fun _ => none) 0) := Lib.hid (by rw [hM]; exact MapN.made _ _ w)
  have S0 : Hid (Sm (fun c => w.heap.size ≤ c) w (w.alloc (.map #[] 0))) := Lib.hid ((Sm.refl _ _).alloc _)
  obtain ⟨w0, hw0⟩ : ∃ w0, w0 = w.alloc (.map #[] 0) := ⟨_, rfl⟩
  rw [← hw0] at N0 S0 ⊢
  rw [← hM]
  have HM := Lib.hid hM
  clear hw0 hM
  go_loopw [6] (fun s6 wr => ∃ (k : Nat) (f : Nat → Option Nat) (n : Nat), k ≤ m ∧ s6 = .int .i64 k ∧ n ≤ 5000 * k ∧ Hid (MapN 3 .i64 wr M f n) ∧ Hid (Left1 b k 0 f) ∧ Hid (Sm (fun c => w.heap.size ≤ c) w wr)) (fun s6 _ => m - (intOf s6).toNat)
  case atStart => exact ⟨0, fun _ => none, 0, by omega, rfl, by omega, N0, Lib.hid (fun v _ => by rw [if_neg]; rintro (⟨k, h, _⟩ | h); omega; simp at h), S0⟩
  case round =>
    clear N0 S0 w0
    obtain ⟨wo, rfl⟩ : ∃ wo : World, wo = wr := ⟨_, rfl⟩
    obtain ⟨k, f, n, hk, rfl, hn, hN, hF, hSm⟩ := hrel
    by_cases hlt : k < m
    · have j1 : (k : Int) < (m : Int) := by omega
      have hp1 : wrap64 ((k : Int) + 1) = ((k + 1 : Nat) : Int) := by unfold wrap64; omega
      have HP1 := Lib.hid hp1
      clear hp1
      have hb := HB.out.new hSm.out
      have e1 := hb.ptr k hlt
      have e2 : wo.cell? ⟨bk k, 2, none⟩ = some (.bool false) := (hb.rep k hlt).row.cell 2
      clear hb
      have HLk := Lib.hid (HL.out k hlt)
      obtain ⟨L, hL9⟩ : ∃ L, L = (b k).1.length := ⟨_, rfl⟩
      have hL1 : L ≤ 5000 := by rw [hL9]; exact HLk.out.1
      have HL9 := Lib.hid hL9
      clear hL9
      go_wp2
      go_loopw [7] (fun s7 wq => ∃ (i : Nat) (f : Nat → Option Nat) (n : Nat), i ≤ L ∧ s7 = .int .i64 i ∧ n ≤ 5000 * k + i ∧ Hid (MapN 3 .i64 wq M f n) ∧ Hid (Left1 b k i f) ∧ Hid (Sm (fun c => w.heap.size ≤ c) w wq)) (fun s7 _ => L - (intOf s7).toNat)
      case atStart => exact ⟨0, f, n, by omega, rfl, by omega, hN, hF, hSm⟩
      case round =>
        clear hN hF hSm hn e1 e2 f n
        obtain ⟨wp, rfl⟩ : ∃ wp : World, wp = wr := ⟨_, rfl⟩
        obtain ⟨i, f, n, hi, rfl, hn, hN, hF, hSm⟩ := hrel
        have hb := HB.out.new hSm.out
        have e1 := hb.ptr k hlt
        have hq := (hb.rep k hlt).q1
        have e3 : wp.cell? ⟨bk k, 0, none⟩ = some (γ k).1 := (hb.rep k hlt).row.cell 0
        have hq : wp.ownsRow (bk k + 1) 30 1 (γ k).1 L (u64s (b k).1) := by rw [HL9.out]; exact hq
        by_cases hil : i < L
        · have i1 : (i : Int) < (L : Int) := by omega
          have hp2 : wrap64 ((i : Int) + 1) = ((i + 1 : Nat) : Int) := by unfold wrap64; omega
          have HP2 := Lib.hid hp2
          clear hp2
          have hil2 : i < (b k).1.length := by rw [← HL9.out]; exact hil
          obtain ⟨g, c1, e4, e5⟩ := u64s_at (by rw [HL9.out] at hq; exact hq) hil2
          rw [e4, ← HL9.out] at e3
          obtain ⟨x, hx⟩ : ∃ x, x = (b k).1[i] := ⟨_, rfl⟩
          have hx64 : x < 18446744073709551616 := HS.out.lt x ⟨k, hlt, by rw [hx]; exact List.getElem_mem hil2⟩
          rw [← hx] at e5
          have HX := Lib.hid hx
          clear hx hb hq e4
          go_wp2_with (refine wpList_storeN rfl (.tmp 44) (.tmp 54) (.const (.int .i64 1)) rfl Try.underlying3 Try.underlying186 rfl hN.out (by omega) hx64 rfl rfl (x := 1) (wf_small 1 (by omega)) ?_)
          intro w2 n2 hn2 hN2 hS2
          have hF2 : Hid (Left1 b k (i + 1) (set2 f x (some 1))) := Lib.hid (by rw [HX.out]; exact hF.out.step hil2)
          have hN2 := Lib.hid hN2
          have hS2 : Hid (Sm (fun c => w.heap.size ≤ c) w w2) := Lib.hid (hSm.out.trans (hS2.mono fun c e => by rw [e, HM.out]; exact Nat.le_refl _))
          clear e1 e3 e5
          go_wp2
          go_roundw
          case rel => exact ⟨i + 1, _, n2, by omega, by first | rw [HP2.out] | go_num, by omega, hN2, hF2, hS2⟩
          case measure => (try rw [HP2.out]); simp only [intOf]; omega
        · have i1 : ¬ (i : Int) < (L : Int) := by omega
          obtain ⟨a1, c1, e4⟩ := own_form0 hq
          rw [e4] at e3
          have heq : i = L := by omega
          have hF2 : Hid (Left1 b (k + 1) 0 f) := Lib.hid (by have := hF.out; rw [heq, HL9.out] at this; exact this.next)
          clear hb hq e4
          go_wp2
          go_roundw
          case rel => exact ⟨k + 1, f, n, by omega, by first | rw [HP1.out] | go_num, by omega, hN, hF2, hSm⟩
          case measure => (try rw [HP1.out]); simp only [intOf]; omega
    · have j1 : ¬ (k : Int) < (m : Int) := by omega
      have hkm : k = m := by omega
      subst hkm
      have hF0 : Hid (Left2 k b 0 0 f) := Lib.hid hF.out.done
      clear hF
      go_wp2
      go_loopw [8] (fun s8 wr => ∃ (k2 : Nat) (f : Nat → Option Nat) (n : Nat), k2 ≤ k ∧ s8 = .int .i64 k2 ∧ n ≤ 40000 + 5000 * k2 ∧ Hid (MapN 3 .i64 wr M f n) ∧ Hid (Left2 k b k2 0 f) ∧ Hid (Sm (fun c => w.heap.size ≤ c) w wr)) (fun s8 _ => k - (intOf s8).toNat)
      case atStart => exact ⟨0, f, n, by omega, rfl, by omega, hN, hF0, hSm⟩
      case round =>
        clear hN hF0 hSm hn f n j1 hk
        obtain ⟨wo2, rfl⟩ : ∃ wo2 : World, wo2 = wr := ⟨_, rfl⟩
        obtain ⟨k2, f, n, hk2, rfl, hn, hN, hF, hSm⟩ := hrel
        by_cases hlt : k2 < k
        · have j1 : (k2 : Int) < (k : Int) := by omega
          have hp1 : wrap64 ((k2 : Int) + 1) = ((k2 + 1 : Nat) : Int) := by unfold wrap64; omega
          have HP1 := Lib.hid hp1
          clear hp1
          have HLk := Lib.hid (HL.out k2 hlt)
          obtain ⟨L, hL9⟩ : ∃ L, L = (b k2).2.length := ⟨_, rfl⟩
          have hL1 : L ≤ 5000 := by rw [hL9]; exact HLk.out.2
          have HL9 := Lib.hid hL9
          clear hL9
          go_wp2
          go_loopw [9] (fun s9 wq => ∃ (i : Nat) (f : Nat → Option Nat) (n : Nat), i ≤ L ∧ s9 = .int .i64 i ∧ n ≤ 40000 + 5000 * k2 + i ∧ Hid (MapN 3 .i64 wq M f n) ∧ Hid (Left2 k b k2 i f) ∧ Hid (Sm (fun c => w.heap.size ≤ c) w wq)) (fun s9 _ => L - (intOf s9).toNat)
          case atStart => exact ⟨0, f, n, by omega, rfl, by omega, hN, hF, hSm⟩
          case round =>
            clear hN hF hSm hn f n
            obtain ⟨wp, rfl⟩ : ∃ wp : World, wp = wr := ⟨_, rfl⟩
            obtain ⟨i, f, n, hi, rfl, hn, hN, hF, hSm⟩ := hrel
            have hb := HB.out.new hSm.out
            have e1 := hb.ptr k2 hlt
            have hq := (hb.rep k2 hlt).q2
            have e3 : wp.cell? ⟨bk k2, 1, none⟩ = some (γ k2).2.1 := (hb.rep k2 hlt).row.cell 1
            have hq : wp.ownsRow (bk k2 + 1) 30 1 (γ k2).2.1 L (u64s (b k2).2) := by rw [HL9.out]; exact hq
            by_cases hil : i < L
            · have i1 : (i : Int) < (L : Int) := by omega
              have hp2 : wrap64 ((i : Int) + 1) = ((i + 1 : Nat) : Int) := by unfold wrap64; omega
              have HP2 := Lib.hid hp2
              clear hp2
              have hil2 : i < (b k2).2.length := by rw [← HL9.out]; exact hil
              obtain ⟨g, c1, e4, e5⟩ := u64s_at (by rw [HL9.out] at hq; exact hq) hil2
              rw [e4, ← HL9.out] at e3
              obtain ⟨x, hx⟩ : ∃ x, x = (b k2).2[i] := ⟨_, rfl⟩
              have hx64 : x < 18446744073709551616 := by rw [hx]; exact HS.out.lt _ (HS.out.popped k2 i hil2 hlt).1
              have hf1 : f x = some 1 := by rw [hx]; exact hF.out.one HS.out hlt hil2
              rw [← hx] at e5
              have HX := Lib.hid hx
              have hlk : (Instr.lookup 186 (.map (some M)) (.int .u64 (x : Int)) false).run Try.prog wp = .ok (.int .i64 1) wp := by
                rw [hN.out.look Try.underlying3 info_i64 Try.underlying186 hx64, hf1]
                rfl
              clear hx hb hq e4 hf1
              go_wp2_with (refine wpList_storeN rfl (.tmp 86) (.tmp 96) (.const (.int .i64 0)) rfl Try.underlying3 Try.underlying186 rfl hN.out (by omega) hx64 rfl rfl (x := 0) (wf_small 0 (by omega)) ?_)
              intro w2 n2 hn2 hN2 hS2
              have hF2 : Hid (Left2 k b k2 (i + 1) (set2 f x (some 0))) := Lib.hid (by rw [HX.out]; exact hF.out.step HS.out hlt hil2)
              have hN2 := Lib.hid hN2
              have hS2 : Hid (Sm (fun c => w.heap.size ≤ c) w w2) := Lib.hid (hSm.out.trans (hS2.mono fun c e => by rw [e, HM.out]; exact Nat.le_refl _))
              clear e1 e3 e5 hlk
              go_wp2
              go_roundw
              case rel => exact ⟨i + 1, _, n2, by omega, by first | rw [HP2.out] | go_num, by omega, hN2, hF2, hS2⟩
              case measure => (try rw [HP2.out]); simp only [intOf]; omega
            · have i1 : ¬ (i : Int) < (L : Int) := by omega
              obtain ⟨a1, c1, e4⟩ := own_form0 hq
              rw [e4] at e3
              have heq : i = L := by omega
              have hF2 : Hid (Left2 k b (k2 + 1) 0 f) := Lib.hid (by have := hF.out; rw [heq, HL9.out] at this; exact this.next)
              clear hb hq e4
              go_wp2
              go_roundw
              case rel => exact ⟨k2 + 1, f, n, by omega, by first | rw [HP1.out] | go_num, by omega, hN, hF2, hSm⟩
              case measure => (try rw [HP1.out]); simp only [intOf]; omega
        · have j1 : ¬ (k2 : Int) < (k : Int) := by omega
          have hkk : k2 = k := by omega
          subst hkk
          have hF0 : Hid (Left3 k2 b rest 0 f) := Lib.hid hF.out.done
          clear hF
          go_wp2
          obtain ⟨M2, hM2⟩ : ∃ M2, M2 = wo2.heap.size := ⟨_, rfl⟩
          have N2 : Hid (MapN 30 .u64 (wo2.alloc (.map #[] 0)) M2 (fun _ => none) 0) := Lib.hid (by rw [hM2]; exact MapN.made _ _ wo2)
          have S2 : Hid (Sm (fun c => w.heap.size ≤ c) w (wo2.alloc (.map #[] 0))) := Lib.hid (hSm.out.alloc _)
          have N1 : Hid (MapN 3 .i64 (wo2.alloc (.map #[] 0)) M f n) := Lib.hid (hN.out.sm ((Sm.refl (fun _ => False) _).alloc _) id)
          have hMM : M ≠ M2 ∧ w.heap.size ≤ M2 := ⟨by have := hN.out.lt; omega, by rw [hM2]; exact hSm.out.size⟩
          obtain ⟨w3, hw3⟩ : ∃ w3, w3 = wo2.alloc (.map #[] 0) := ⟨_, rfl⟩
          rw [← hw3] at N1 N2 S2 ⊢
          rw [← hM2]
          clear hw3 hM2 hN hSm
          go_loopw [12, 11] (fun s12 s11 wr => ∃ (i : Nat) (f g : Nat → Option Nat) (n n2 : Nat), i ≤ rest.length ∧ s12 = .int .i64 i ∧ s11 = .int .i64 i ∧ n ≤ 80000 + i ∧ n2 ≤ i ∧ Hid (MapN 3 .i64 wr M f n) ∧ Hid (MapN 30 .u64 wr M2 g n2) ∧ Hid (Left3 k2 b rest i f) ∧ Hid (Last3 rest i g) ∧ Hid (Sm (fun c => w.heap.size ≤ c) w wr)) (fun s12 _ _ => rest.length - (intOf s12).toNat)
          case atStart => exact ⟨0, f, _, n, 0, by omega, rfl, rfl, by omega, by omega, N1, N2, hF0, Lib.hid Last3.start, S2⟩
          case round =>
            clear N1 N2 hF0 S2 w3 hn f n
            obtain ⟨wp, rfl⟩ : ∃ wp : World, wp = wr := ⟨_, rfl⟩
            obtain ⟨i, f, g, n, n2, hi, rfl, rfl, hn, hn2, hN, hG, hF, hT, hSm⟩ := hrel
            by_cases hil : i < rest.length
            · have i1 : (i : Int) < (rest.length : Int) := by omega
              have i0 : (0 : Int) ≤ (i : Int) := by omega
              have hp2 : wrap64 ((i : Int) + 1) = ((i + 1 : Nat) : Int) := by unfold wrap64; omega
              have HP2 := Lib.hid hp2
              clear hp2
              obtain ⟨g0, c1, e4, e5⟩ := u64s_at HR.out hil
              have er : ra = some ⟨g0, 0, none⟩ := by injection e4
              subst er
              have hg0 : g0 < w.heap.size := (own_lo HR.out (x := g0) rfl).2
              have e5 := cell_sm e5 hSm.out hg0 (by show ¬ w.heap.size ≤ g0; omega)
              obtain ⟨x, hx⟩ : ∃ x, x = rest[i] := ⟨_, rfl⟩
              have hx64 : x < 18446744073709551616 := by rw [hx]; exact HS.out.lt _ (HS.out.left i hil).1
              have hf1 : f x = some 1 := by rw [hx]; exact hF.out.one HS.out hil
              obtain ⟨d, hd⟩ : ∃ d, d = x / 1000 := ⟨_, rfl⟩
              have hd64 : d < 18446744073709551616 := by omega
              have hdiv : Int.tdiv (x : Int) 1000 = (d : Int) := by rw [hd, Int.tdiv_eq_ediv_of_nonneg (by omega)]; rfl
              have hless : ∀ y, g d = some y → x < y := fun y hy => by rw [hx]; exact hT.out.less HS.out hil (by rw [← hx, ← hd]; exact hy)
              have hF2 : Hid (Left3 k2 b rest (i + 1) (set2 f x (some 0))) := Lib.hid (by rw [hx]; exact hF.out.step HS.out hil)
              have hT2 : Hid (Last3 rest (i + 1) (set2 g d (some x))) := Lib.hid (by rw [hd, hx]; exact hT.out.step hil)
              rw [← hx] at e5
              have hlk : (Instr.lookup 186 (.map (some M)) (.int .u64 (x : Int)) false).run Try.prog wp = .ok (.int .i64 1) wp := by
                rw [hN.out.look Try.underlying3 info_i64 Try.underlying186 hx64, hf1]
                rfl
              have HLess := Lib.hid hless
              clear hx e4 hf1 hd hF hT hless
              go_wp2_with (refine wpList_storeN rfl (.tmp 112) (.tmp 113) (.const (.int .i64 0)) rfl Try.underlying3 Try.underlying186 rfl hN.out (by omega) hx64 rfl rfl (x := 0) (wf_small 0 (by omega)) ?_)
              intro w4 n4 hn4 hN4 hS4
              have hN4 := Lib.hid hN4
              have hG4 := hG.out.sm hS4 (fun e => hMM.1 e.symm)
              have hS5 : Hid (Sm (fun c => w.heap.size ≤ c) w w4) := Lib.hid (hSm.out.trans (hS4.mono fun c e => by rw [e, HM.out]; exact Nat.le_refl _))
              have hlk2 := hG4.look_ok Try.underlying30 info_z64 Try.underlying187 hd64
              have hG4 := Lib.hid hG4
              clear hlk e5 hN hG hSm hS4
              cases hgd : g d with
              | none =>
                rw [hgd] at hlk2
                simp only [Option.getD_none, Option.isSome_none, Int.natCast_zero] at hlk2
                go_wp2_with (refine wpList_storeN rfl (.tmp 127) (.tmp 129) (.tmp 130) rfl Try.underlying30 Try.underlying187 rfl hG4.out (by omega) hd64 rfl rfl (x := x) (wf64 x hx64) ?_)
                intro w5 n5 hn5 hG5 hS6
                have hN5 : Hid (MapN 3 .i64 w5 M (set2 f x (some 0)) n4) := Lib.hid (hN4.out.sm hS6 hMM.1)
                have hG5 := Lib.hid hG5
                have hS7 : Hid (Sm (fun c => w.heap.size ≤ c) w w5) := Lib.hid (hS5.out.trans (hS6.mono fun c e => by rw [e]; exact hMM.2))
                clear hlk2
                go_wp2
                go_roundw
                case rel => exact ⟨i + 1, _, _, n4, n5, by omega, by first | rw [HP2.out] | go_num, by first | rw [HP2.out] | go_num, by omega, by omega, hN5, hG5, hF2, hT2, hS7⟩
                case measure => (try rw [HP2.out]); simp only [intOf]; omega
              | some y =>
                have hxy := HLess.out y hgd
                have hy1 : ¬ (y : Int) < (x : Int) := by omega
                have hy2 : decide ((y : Int) < (x : Int)) = false := by simp; omega
                have hy3 : decide (y < x) = false := by simp; omega
                rw [hgd] at hlk2
                simp only [Option.getD_some, Option.isSome_some] at hlk2
                go_wp2_with (refine wpList_storeN rfl (.tmp 127) (.tmp 129) (.tmp 130) rfl Try.underlying30 Try.underlying187 rfl hG4.out (by omega) hd64 rfl rfl (x := x) (wf64 x hx64) ?_)
                intro w5 n5 hn5 hG5 hS6
                have hN5 : Hid (MapN 3 .i64 w5 M (set2 f x (some 0)) n4) := Lib.hid (hN4.out.sm hS6 hMM.1)
                have hG5 := Lib.hid hG5
                have hS7 : Hid (Sm (fun c => w.heap.size ≤ c) w w5) := Lib.hid (hS5.out.trans (hS6.mono fun c e => by rw [e]; exact hMM.2))
                clear hlk2
                go_wp2
                go_roundw
                case rel => exact ⟨i + 1, _, _, n4, n5, by omega, by first | rw [HP2.out] | go_num, by first | rw [HP2.out] | go_num, by omega, by omega, hN5, hG5, hF2, hT2, hS7⟩
                case measure => (try rw [HP2.out]); simp only [intOf]; omega
            · have i1 : ¬ (i : Int) < (rest.length : Int) := by omega
              have heq : i = rest.length := by omega
              subst heq
              have HA : Hid (∀ v, pushedS k2 b v → f v = some 0) := Lib.hid fun v hv => hF.out.all HS.out hv
              clear hF hT hG
              go_wp2
              go_loopw [16] (fun s16 wr => ∃ k3 : Nat, k3 ≤ k2 ∧ s16 = .int .i64 k3 ∧ Hid (MapN 3 .i64 wr M f n) ∧ Hid (Sm (fun c => w.heap.size ≤ c) w wr)) (fun s16 _ => k2 - (intOf s16).toNat)
              case atStart => exact ⟨0, by omega, rfl, hN, hSm⟩
              case round =>
                clear hN hSm
                obtain ⟨wp3, rfl⟩ : ∃ wp3 : World, wp3 = wr := ⟨_, rfl⟩
                obtain ⟨k3, hk3, rfl, hN, hSm⟩ := hrel
                by_cases hlt : k3 < k2
                · have j1 : (k3 : Int) < (k2 : Int) := by omega
                  have hp1 : wrap64 ((k3 : Int) + 1) = ((k3 + 1 : Nat) : Int) := by unfold wrap64; omega
                  have HP1 := Lib.hid hp1
                  clear hp1
                  have HLk := Lib.hid (HL.out k3 hlt)
                  obtain ⟨L, hL9⟩ : ∃ L, L = (b k3).1.length := ⟨_, rfl⟩
                  have hL1 : L ≤ 5000 := by rw [hL9]; exact HLk.out.1
                  have HL9 := Lib.hid hL9
                  clear hL9
                  go_wp2
                  go_loopw [17] (fun s17 wq => ∃ i : Nat, i ≤ L ∧ s17 = .int .i64 i ∧ Hid (MapN 3 .i64 wq M f n) ∧ Hid (Sm (fun c => w.heap.size ≤ c) w wq)) (fun s17 _ => L - (intOf s17).toNat)
                  case atStart => exact ⟨0, by omega, rfl, hN, hSm⟩
                  case round =>
                    clear hN hSm
                    obtain ⟨wp4, rfl⟩ : ∃ wp4 : World, wp4 = wr := ⟨_, rfl⟩
                    obtain ⟨i, hi, rfl, hN, hSm⟩ := hrel
                    have hb := HB.out.new hSm.out
                    have e1 := hb.ptr k3 hlt
                    have hq := (hb.rep k3 hlt).q1
                    have e3 : wp4.cell? ⟨bk k3, 0, none⟩ = some (γ k3).1 := (hb.rep k3 hlt).row.cell 0
                    have hq : wp4.ownsRow (bk k3 + 1) 30 1 (γ k3).1 L (u64s (b k3).1) := by rw [HL9.out]; exact hq
                    by_cases hil : i < L
                    · have i1 : (i : Int) < (L : Int) := by omega
                      have hp2 : wrap64 ((i : Int) + 1) = ((i + 1 : Nat) : Int) := by unfold wrap64; omega
                      have HP2 := Lib.hid hp2
                      clear hp2
                      have hil2 : i < (b k3).1.length := by rw [← HL9.out]; exact hil
                      obtain ⟨g, c1, e4, e5⟩ := u64s_at (by rw [HL9.out] at hq; exact hq) hil2
                      rw [e4, ← HL9.out] at e3
                      obtain ⟨x, hx⟩ : ∃ x, x = (b k3).1[i] := ⟨_, rfl⟩
                      have hps : pushedS k2 b x := ⟨k3, hlt, by rw [hx]; exact List.getElem_mem hil2⟩
                      have hx64 : x < 18446744073709551616 := HS.out.lt x hps
                      rw [← hx] at e5
                      have hlk : (Instr.lookup 186 (.map (some M)) (.int .u64 (x : Int)) false).run Try.prog wp4 = .ok (.int .i64 0) wp4 := by
                        rw [hN.out.look Try.underlying3 info_i64 Try.underlying186 hx64, HA.out x hps]
                        rfl
                      clear hx hb hq e4 hps
                      go_wp2
                      go_roundw
                      case rel => exact ⟨i + 1, by omega, by first | rw [HP2.out] | go_num, hN, hSm⟩
                      case measure => (try rw [HP2.out]); simp only [intOf]; omega
                    · have i1 : ¬ (i : Int) < (L : Int) := by omega
                      obtain ⟨a1, c1, e4⟩ := own_form0 hq
                      rw [e4] at e3
                      clear hb hq e4
                      go_wp2
                      go_roundw
                      case rel => exact ⟨k3 + 1, by omega, by first | rw [HP1.out] | go_num, hN, hSm⟩
                      case measure => (try rw [HP1.out]); simp only [intOf]; omega
                · have j1 : ¬ (k3 : Int) < (k2 : Int) := by omega
                  have hend : Sm (fun _ => False) w wp3 := ⟨hSm.out.os, hSm.out.tape, hSm.out.output, hSm.out.size, fun c hc _ => hSm.out.block c hc (by show ¬ w.heap.size ≤ c; omega)⟩
                  have HE := Lib.hid hend
                  clear hend
                  go_wp2
                  go_ret
                  exact ⟨rfl, HE.out⟩
end Go.Proofs.Ytmcffabfghhpaaa
/- Plain words: patchbaylaw08.whats, walked alone: what threads do. No condition. -/
namespace Go.Proofs.Ytmcffabfghhpaaa
open Go.RowKit
set_option linter.unusedVariables false
set_option linter.unusedSimpArgs false

/-- A row of truths that lies in memory. -/
def GoodRowB (X : Nat → Prop) (most : Nat) (w : World) (u : Value) : Prop :=
  ∃ (a : Option Addr) (l c : Nat), u = .slice a l c ∧ l ≤ most ∧ l ≤ c ∧ ∀ j, j < l → ∃ b o x, a = some ⟨b, o, none⟩ ∧ b < w.heap.size ∧ w.cell? ⟨b, o + j, none⟩ = some (.bool x) ∧ X b

theorem GoodRowB.sm {X : Nat → Prop} {most : Nat} {w w' : World} {u : Value} (h : GoodRowB X most w u) (k : Sm (fun _ => False) w w') : GoodRowB X most w' u := by
  obtain ⟨a, l, c, rfl, h1, h2, h3⟩ := h
  refine ⟨a, l, c, rfl, h1, h2, fun j hj => ?_⟩
  obtain ⟨b, o, x, h4, h5, h7, h8⟩ := h3 j hj
  exact ⟨b, o, x, h4, Nat.lt_of_lt_of_le h5 k.size, (k.cell h5 (fun h => h)).trans h7, h8⟩

theorem GoodRowB.cut {X : Nat → Prop} {m1 most : Nat} {w : World} {a : Option Addr} {l c : Nat} (h : GoodRowB X m1 w (.slice a l c)) (k : Nat) (hk : k ≤ most) (hl : k ≤ l) : GoodRowB X most w (.slice a k c) := by
  obtain ⟨a', l', c', e, h1, h2, h3⟩ := h
  simp only [Value.slice.injEq] at e
  obtain ⟨rfl, rfl, rfl⟩ := e
  exact ⟨a, k, c, rfl, hk, by omega, fun j hj => h3 j (by omega)⟩

/-- The rows of an argument. -/
structure RowsArgB (X : Nat → Prop) (b off n : Nat) (V : Nat → Value) (w : World) : Prop where
  hd : ∀ r, r < n → w.cell? ⟨b, off + r, none⟩ = some (V r)
  ok : ∀ r, r < n → ∃ m, GoodRowB X m w (V r)
  old : 0 < n → b < w.heap.size
theorem RowsArgB.sm {X : Nat → Prop} {b off n : Nat} {V : Nat → Value} {w w' : World} (h : RowsArgB X b off n V w) (k : Sm (fun _ => False) w w') : RowsArgB X b off n V w' :=
  ⟨fun r hr => (k.cell (h.old (by omega)) (fun h => h)).trans (h.hd r hr), fun r hr => (h.ok r hr).elim fun m hm => ⟨m, hm.sm k⟩, fun h0 => Nat.lt_of_lt_of_le (h.old h0) k.size⟩

theorem info_rowB : (Try.prog.info? 22).map (fun i => (i.zero, i.size, i.bytes)) = some (some (.slice none 0 0), 1, 24) := by kernel_rfl

set_option maxRecDepth 100000 in
set_option maxHeartbeats 1600000 in
theorem whats_c {X : Nat → Prop} (a : Option Addr) (b off n c most : Nat) (V : Nat → Value) (ha : 0 < n → a = some ⟨b, off, none⟩) (hn : n ≤ 9223372036854775807) (hm : most ≤ 1000) (h1 : 1 < most) (w : World) (hX : ∀ b, w.heap.size ≤ b → X b) (h : RowsArgB X b off n V w) :
    Calls Try.prog 16 #[.slice a n c, .int .i64 most] w fun e w' =>
      ∃ v xs, e = .returned v ∧ w'.ownsRow w.heap.size 22 1 v xs.length xs ∧ 0 < xs.length ∧ xs.length ≤ 4 ∧ (∀ u ∈ xs, GoodRowB X most w' u) ∧ Sm (fun _ => False) w w' := by
  obtain ⟨i0, hi, hz0, hz1, hz2⟩ := info_parts info_rowB
  have Hi := Lib.hid hi
  have Hz0 := Lib.hid hz0
  have Hz1 := Lib.hid hz1
  have Hz2 := Lib.hid hz2
  have HH := Lib.hid h
  have HA := Lib.hid ha
  clear hi hz0 hz1 hz2 h ha
  go_enter Try.func16, Try.ntmps16
  go_wp2
  go_loopw [5, 6] (fun s5 s6 wr => ∃ k : Nat, k ≤ n ∧ k ≤ 4 ∧ s6 = .int .i64 k ∧ (∃ xs : List Value, xs.length = k ∧ Hid (wr.ownsRow w.heap.size 22 1 s5 k xs) ∧ Hid (∀ u ∈ xs, GoodRowB X most w u)) ∧ Hid (Sm (fun _ => False) w wr)) (fun s5 s6 _ => n - (intOf s6).toNat)
  case atStart => exact ⟨0, by omega, by omega, rfl, ⟨[], rfl, Lib.hid (World.ownsRow_nil _ _ _ _), Lib.hid (by simp)⟩, Lib.hid (Sm.refl _ _)⟩
  case round =>
    obtain ⟨k, hk, hk6, rfl, ⟨xs, hxl, hown, hgood⟩, hS⟩ := hrel
    by_cases hlt : k < n
    · have j1 : (k : Int) < (n : Int) := by omega
      by_cases h6 : k < 4
      · have j6 : (k : Int) < 4 := by omega
        have hp : wrap64 ((k : Int) + 1) = ((k + 1 : Nat) : Int) := by unfold wrap64; omega
        have HP := Lib.hid hp
        clear hp
        have hA1 := HA.out (by omega)
        subst hA1
        have hr := HH.out.sm hS.out
        have hc := hr.hd k hlt
        obtain ⟨m1, hg⟩ := HH.out.ok k hlt
        obtain ⟨ra, rl, rc, hV, hrl, hrc, hrd⟩ := hg
        rw [hV] at hc
        have HV := Lib.hid (show GoodRowB X m1 w (.slice ra rl rc) from ⟨ra, rl, rc, rfl, hrl, hrc, hrd⟩)
        obtain ⟨a5, c5, hv5⟩ := own_form0 hown.out
        subst hv5
        clear hr hrd hV
        by_cases hbig : (most : Int) < (rl : Int)
        · skip
          go_wp2_with (at_builtin; refine wpList_append_own _ rfl (.tmp 29) (.tmp 31) 38 rfl w.heap.size 22 i0 (.slice none 0 0) 1 24 Try.underlying38 Hi.out Hz0.out Hz1.out Hz2.out rfl (by decide) _ k xs rfl (hown.out.alloc _) ⟨wr.heap.size, 0, none⟩ 1 1 [.slice ra most rc] rfl rfl (new_cells wr [.slice ra most rc] 22) (by simp [Value.oneCell']) (by unfold maxLen; omega) (by omega) (by have := hS.out.size; simp; omega) ?_; intro v' w4 hown4 hgr4 _)
          have n1 : Hid (w4.ownsRow w.heap.size 22 1 v' (k + 1) (xs ++ [.slice ra most rc])) := Lib.hid hown4
          have n2 : Hid (∀ u ∈ xs ++ [.slice ra most rc], GoodRowB X most w u) := Lib.hid (fun u hu => by
            rcases List.mem_append.1 hu with h | h
            · exact hgood.out u h
            · rw [List.mem_singleton.1 h]
              have hg := HV.out
              exact hg.cut most (Nat.le_refl _) (by omega))
          have n3 : Hid (Sm (fun _ => False) w w4) := Lib.hid (by
            have z := hS.out.size
            exact ⟨hgr4.os.trans hS.out.os, hgr4.tape.trans hS.out.tape, hgr4.output.trans hS.out.output, by have := hgr4.size; simp at this; omega, fun j hj hf => (hgr4.block j (by simp; omega) (fun e => by have := (hown.out.lt j e.symm).1; omega)).trans ((Below.heap_alloc _ _ _ (by omega)).trans (hS.out.block j hj hf))⟩)
          go_wp2
          go_roundw
          case rel => exact ⟨k + 1, by omega, by omega, by first | rw [HP.out] | go_num, ⟨_, by simp [hxl], n1, n2⟩, n3⟩
          case measure => (try rw [HP.out]); simp only [intOf]; omega
        · skip
          go_wp2_with (at_builtin; refine wpList_append_own _ rfl (.tmp 29) (.tmp 31) 38 rfl w.heap.size 22 i0 (.slice none 0 0) 1 24 Try.underlying38 Hi.out Hz0.out Hz1.out Hz2.out rfl (by decide) _ k xs rfl (hown.out.alloc _) ⟨wr.heap.size, 0, none⟩ 1 1 [.slice ra rl rc] rfl rfl (new_cells wr [.slice ra rl rc] 22) (by simp [Value.oneCell']) (by unfold maxLen; omega) (by omega) (by have := hS.out.size; simp; omega) ?_; intro v' w4 hown4 hgr4 _)
          have n1 : Hid (w4.ownsRow w.heap.size 22 1 v' (k + 1) (xs ++ [.slice ra rl rc])) := Lib.hid hown4
          have n2 : Hid (∀ u ∈ xs ++ [.slice ra rl rc], GoodRowB X most w u) := Lib.hid (fun u hu => by
            rcases List.mem_append.1 hu with h | h
            · exact hgood.out u h
            · rw [List.mem_singleton.1 h]
              have hg := HV.out
              exact hg.cut rl (by omega) (Nat.le_refl _))
          have n3 : Hid (Sm (fun _ => False) w w4) := Lib.hid (by
            have z := hS.out.size
            exact ⟨hgr4.os.trans hS.out.os, hgr4.tape.trans hS.out.tape, hgr4.output.trans hS.out.output, by have := hgr4.size; simp at this; omega, fun j hj hf => (hgr4.block j (by simp; omega) (fun e => by have := (hown.out.lt j e.symm).1; omega)).trans ((Below.heap_alloc _ _ _ (by omega)).trans (hS.out.block j hj hf))⟩)
          go_wp2
          go_roundw
          case rel => exact ⟨k + 1, by omega, by omega, by first | rw [HP.out] | go_num, ⟨_, by simp [hxl], n1, n2⟩, n3⟩
          case measure => (try rw [HP.out]); simp only [intOf]; omega
      · have j6 : ¬ (k : Int) < 4 := by omega
        have hk0 : 0 < k := by omega
        obtain ⟨a5, c5, hv5⟩ := own_form0 hown.out
        subst hv5
        have HO := Lib.hid (show wr.ownsRow w.heap.size 22 1 (.slice a5 k c5) xs.length xs by rw [hxl]; exact hown.out)
        have hkz : ((k : Int) == 0) = false := by rw [beq_eq_false_iff_ne]; omega
        go_wp2
        go_ret
        exact ⟨_, rfl, xs, HO.out, by omega, by omega, fun u hu => (hgood.out u hu).sm hS.out, hS.out⟩
    · have j1 : ¬ (k : Int) < (n : Int) := by omega
      by_cases hk0 : 0 < k
      · skip
        obtain ⟨a5, c5, hv5⟩ := own_form0 hown.out
        subst hv5
        have HO := Lib.hid (show wr.ownsRow w.heap.size 22 1 (.slice a5 k c5) xs.length xs by rw [hxl]; exact hown.out)
        have hkz : ((k : Int) == 0) = false := by rw [beq_eq_false_iff_ne]; omega
        go_wp2
        go_ret
        exact ⟨_, rfl, xs, HO.out, by omega, by omega, fun u hu => (hgood.out u hu).sm hS.out, hS.out⟩
      · obtain rfl : k = 0 := by omega
        obtain rfl : xs = [] := List.eq_nil_of_length_eq_zero hxl
        obtain ⟨a5, c5, hv5⟩ := own_form0 hown.out
        subst hv5
        go_wp2_with (at_builtin; refine wpList_append_own _ rfl (.tmp 36) (.tmp 38) 38 rfl w.heap.size 22 i0 (.slice none 0 0) 1 24 Try.underlying38 Hi.out Hz0.out Hz1.out Hz2.out rfl (by decide) _ 0 [] rfl ((hown.out.alloc _).alloc _) ⟨wr.heap.size + 1, 0, none⟩ 1 1 [.slice (some ⟨wr.heap.size, 0, none⟩) 2 2] rfl rfl (by have := new_cells (wr.alloc (.cells #[.bool true, .bool false] 4)) [.slice (some ⟨wr.heap.size, 0, none⟩) 2 2] 22; simpa using this) (by simp [Value.oneCell']) (by unfold maxLen; omega) (by omega) (by have := hS.out.size; simp; omega) ?_; intro v' w4 hown4 hgr4 _)
        have z := hS.out.size
        have e1 : Row w4 wr.heap.size #[.bool true, .bool false] 4 := by
          have r := ((Row.new wr #[.bool true, .bool false] 4).alloc (.cells #[.slice (some ⟨wr.heap.size, 0, none⟩) 2 2] 22 (0, 0)))
          exact r.grown hgr4 (fun e => by have := (hown.out.lt _ e).2; omega)
        have g1 : GoodRowB X most w4 (.slice (some ⟨wr.heap.size, 0, none⟩) 2 2) := by
          refine ⟨_, 2, 2, rfl, by omega, by omega, fun j hj => ?_⟩
          have hj2 : j = 0 ∨ j = 1 := by omega
          rcases hj2 with rfl | rfl
          · exact ⟨wr.heap.size, 0, true, rfl, e1.lt, e1.cell 0, hX _ (by omega)⟩
          · exact ⟨wr.heap.size, 0, false, rfl, e1.lt, e1.cell 1, hX _ (by omega)⟩
        have n3 : Sm (fun _ => False) w w4 :=
          ⟨hgr4.os.trans hS.out.os, hgr4.tape.trans hS.out.tape, hgr4.output.trans hS.out.output, by have := hgr4.size; simp at this; omega, fun j hj hf => (hgr4.block j (by simp; omega) (fun e => by have := (hown.out.lt j e.symm).1; omega)).trans ((Below.heap_alloc _ _ _ (by simp; omega)).trans ((Below.heap_alloc _ _ _ (by omega)).trans (hS.out.block j hj hf)))⟩
        go_wp2
        go_ret
        exact ⟨_, rfl, [.slice (some ⟨wr.heap.size, 0, none⟩) 2 2], hown4, by simp, by simp, by simpa using g1, n3⟩

def boolOf : Option Value → Bool
  | some (.bool x) => x
  | _ => false
def atOf : Option Addr → Nat → Addr
  | some ⟨b, o, _⟩, j => ⟨b, o + j, none⟩
  | none, j => ⟨0, j, none⟩
/-- Rows of truths that lie in memory. -/
structure BoolsOwn (X : Nat → Prop) (g m most : Nat) (l : Nat → List Bool) (ea : Nat → Option Addr) (ec : Nat → Nat) (w : World) : Prop where
  hd : ∀ r, r < m → w.cell? ⟨g, r, none⟩ = some (.slice (ea r) (l r).length (ec r))
  le : ∀ r, (l r).length ≤ most
  dat : ∀ r, r < m → ∀ j (h : j < (l r).length), ∃ b o, ea r = some ⟨b, o, none⟩ ∧ b < w.heap.size ∧ w.cell? ⟨b, o + j, none⟩ = some (.bool (l r)[j]) ∧ X b
theorem bools_of {X : Nat → Prop} {g m cap most : Nat} {xs : List Value} {w : World} {base : Nat} (hm : m = xs.length) (hown : w.ownsRow base 22 1 (.slice (some ⟨g, 0, none⟩) m cap) m xs) (hgood : ∀ u ∈ xs, GoodRowB X most w u) :
    ∃ (l : Nat → List Bool) (ea : Nat → Option Addr) (ec : Nat → Nat), BoolsOwn X g m most l ea ec w := by
  have key : ∀ r, ∃ y : List Bool × Option Addr × Nat, y.1.length ≤ most ∧ (r < m → w.cell? ⟨g, r, none⟩ = some (.slice y.2.1 y.1.length y.2.2) ∧ ∀ j (h : j < y.1.length), ∃ b o, y.2.1 = some ⟨b, o, none⟩ ∧ b < w.heap.size ∧ w.cell? ⟨b, o + j, none⟩ = some (.bool y.1[j]) ∧ X b) := fun r => by
    by_cases hr : r < m
    · obtain ⟨a, n, c, e, h1, h2, h3⟩ := hgood xs[r] (List.getElem_mem (by omega))
      have h4 := hown.cells (g := g) rfl r xs[r] (List.getElem?_eq_getElem (by omega))
      have e2 : (⟨g, 0, none⟩ : Addr).add r = ⟨g, r, none⟩ := by
        unfold Addr.add
        split <;> simp_all
      rw [e2, e] at h4
      refine ⟨((List.range n).map fun j => boolOf (w.cell? (atOf a j)), a, c), by simpa using h1, fun _ => ⟨by simpa using h4, fun j hj => ?_⟩⟩
      have hj : j < n := by simpa using hj
      obtain ⟨b, o, x, g1, g2, g3, g4⟩ := h3 j hj
      refine ⟨b, o, g1, g2, ?_, g4⟩
      subst g1
      rw [g3]
      simp only [List.getElem_map, List.getElem_range, atOf]
      rw [g3]
      rfl
    · exact ⟨([], none, 0), Nat.zero_le _, fun h => absurd h hr⟩
  refine ⟨fun r => (Classical.choose (key r)).1, fun r => (Classical.choose (key r)).2.1, fun r => (Classical.choose (key r)).2.2, fun r hr => ((Classical.choose_spec (key r)).2 hr).1, fun r => (Classical.choose_spec (key r)).1, fun r hr => ((Classical.choose_spec (key r)).2 hr).2⟩
end Go.Proofs.Ytmcffabfghhpaaa
