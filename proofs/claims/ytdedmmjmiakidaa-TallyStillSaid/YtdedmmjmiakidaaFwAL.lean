/- Plain words: what counting threads find in memory. No condition. -/
import Derived.Test.YtdedmmjmiakidaaFwAK
import Derived.Test.YtdedmmjmiakidaaFwAJ
import Derived.Deep.MidRow
import Derived.DeepKeys
import Derived.Laws.AppendOwnNone
set_option linter.unusedVariables false
set_option linter.unusedSimpArgs false
/- Plain words: what counting threads find in memory. No condition. -/
namespace Go.Proofs.Ytdedmmjmiakidaa
open Go.Conc Go.RowKit
/-- Where things lie: the boxes of rows, pair and bad, the pair, the array of bad, each thread's own box, the slice of rows, each row. -/
structure CLay where
  rb : Nat
  pb : Nat
  xb : Nat
  P : Nat
  bad : Nat
  kb : Nat → Nat
  R : Nat
  ro : Nat
  rc : Nat
  ea : Nat → Option Addr
  ec : Nat → Nat
  old : Nat → Option Obj
/-- A row as a value. -/
def CLay.row (L : CLay) (rows : List (List Nat)) (k : Nat) : Value := .slice (L.ea k) (rowOf rows k).length (L.ec k)
def CLay.rowsV (L : CLay) (rows : List (List Nat)) : Value := .slice (some ⟨L.R, L.ro, none⟩) rows.length L.rc
def falses : Array Value := Array.replicate 16 (.bool false)
/-- .. in memory. -/
structure CMem (L : CLay) (T H n : Nat) (rows : List (List Nat)) (u : World) : Prop where
  rb : Row u L.rb #[L.rowsV rows] 34
  pb : Row u L.pb #[.pointer (some ⟨L.P, 0, none⟩)] 65
  xb : Row u L.xb #[.pointer (some ⟨L.bad, 0, none⟩)] 72
  p : Row u L.P (prow T H n) 115
  bad : Row u L.bad falses 68
  kb : ∀ k, k < rows.length → Row u (L.kb k) #[.int .i64 k] 3
  rs : ∀ k, k < rows.length → u.cell? ⟨L.R, L.ro + k, none⟩ = some (L.row rows k)
  row : ∀ k, k < rows.length → ∀ i, i < (rowOf rows k).length → ∃ a, L.ea k = some a ∧ a.spot = none ∧ u.cell? { a with off := a.off + i } = some (.int .u64 ((rowOf rows k).getD i 0 : Nat))
  keep : ∀ k, k < rows.length → (rowOf rows k).length ≠ 0 → ∀ a, L.ea k = some a → u.heap[a.block]? = L.old a.block
/-- The blocks of it. -/
def CLay.foot (L : CLay) (rows : List (List Nat)) (b : Nat) : Prop := b = L.rb ∨ b = L.pb ∨ b = L.xb ∨ b = L.P ∨ b = L.bad ∨ (∃ k, k < rows.length ∧ b = L.kb k) ∨ (rows.length ≠ 0 ∧ b = L.R) ∨ ∃ k, k < rows.length ∧ (rowOf rows k).length ≠ 0 ∧ ∃ a, L.ea k = some a ∧ b = a.block
theorem cell_of_heap {u u' : World} {a : Addr} (h : u'.heap[a.block]? = u.heap[a.block]?) : u'.cell? a = u.cell? a := by
  unfold World.cell?
  rw [h]
theorem CMem.frame {L : CLay} {T H n : Nat} {rows : List (List Nat)} {u u' : World} (hf : ∀ b, L.foot rows b → u'.heap[b]? = u.heap[b]?) (h : CMem L T H n rows u) : CMem L T H n rows u' where
  rb := h.rb.of_heap (hf _ (.inl rfl))
  pb := h.pb.of_heap (hf _ (.inr (.inl rfl)))
  xb := h.xb.of_heap (hf _ (.inr (.inr (.inl rfl))))
  p := h.p.of_heap (hf _ (.inr (.inr (.inr (.inl rfl)))))
  bad := h.bad.of_heap (hf _ (.inr (.inr (.inr (.inr (.inl rfl))))))
  kb := fun k hk => (h.kb k hk).of_heap (hf _ (.inr (.inr (.inr (.inr (.inr (.inl ⟨k, hk, rfl⟩)))))))
  rs := fun k hk => (cell_of_heap (hf _ (.inr (.inr (.inr (.inr (.inr (.inr (.inl ⟨by omega, rfl⟩))))))))).trans (h.rs k hk)
  row := fun k hk i hi => by
    obtain ⟨a, h1, h2, h3⟩ := h.row k hk i hi
    exact ⟨a, h1, h2, (cell_of_heap (a := { a with off := a.off + i }) (hf a.block (.inr (.inr (.inr (.inr (.inr (.inr (.inr ⟨k, hk, by omega, a, h1, rfl⟩))))))))).trans h3⟩
  keep := fun k hk h0 a ha => (hf a.block (.inr (.inr (.inr (.inr (.inr (.inr (.inr ⟨k, hk, h0, a, ha, rfl⟩)))))))).trans (h.keep k hk h0 a ha)
theorem real_of_row {u : World} {y : Nat} {c : Array Value} {t : TypeId} (h : Row u y c t) (hc : c.size ≠ 0) : ∃ o, u.heap[y]? = some o ∧ (∀ cap buf cl x r t, o ≠ .chan cap buf cl x r t) ∧ ∀ T, o ≠ .cells #[] T (0, 0) :=
  ⟨_, h, fun _ _ _ _ _ _ e => (by cases e), fun T e => by
    have := congrArg (fun o => match o with | Obj.cells c _ _ => c.size | _ => 0) e
    exact hc this⟩
theorem real_of_cell {u : World} {a : Addr} {v : Value} (h : u.cell? a = some v) : ∃ o, u.heap[a.block]? = some o ∧ (∀ cap buf cl x r t, o ≠ .chan cap buf cl x r t) ∧ ∀ T, o ≠ .cells #[] T (0, 0) := by
  unfold World.cell? at h
  cases hb : u.heap[a.block]? with
  | none => rw [hb] at h; cases h
  | some o =>
    rw [hb] at h
    cases o with
    | cells c T z =>
      refine ⟨_, rfl, fun _ _ _ _ _ _ e => (by cases e), fun T' e => ?_⟩
      have e := (Obj.cells.inj e).1
      subst e
      simp only at h
      split at h
      · cases h
      · simp at h
    | _ => cases h
theorem CMem.real {L : CLay} {T H n : Nat} {rows : List (List Nat)} {u : World} {b : Nat} (h : CMem L T H n rows u) (hb : L.foot rows b) : ∃ o, u.heap[b]? = some o ∧ (∀ cap buf cl x r t, o ≠ .chan cap buf cl x r t) ∧ ∀ T, o ≠ .cells #[] T (0, 0) := by
  rcases hb with rfl | rfl | rfl | rfl | rfl | ⟨k, hk, rfl⟩ | ⟨h0, rfl⟩ | ⟨k, hk, h0, a, ha, rfl⟩
  · exact real_of_row h.rb (by simp)
  · exact real_of_row h.pb (by simp)
  · exact real_of_row h.xb (by simp)
  · exact real_of_row h.p (by simp [prow])
  · exact real_of_row h.bad (by simp [falses])
  · exact real_of_row (h.kb k hk) (by simp)
  · exact real_of_cell (h.rs 0 (by omega))
  · obtain ⟨a', h1, h2, h3⟩ := h.row k hk 0 (by omega)
    rw [ha] at h1
    obtain rfl := Option.some.inj h1
    exact real_of_cell h3
/-- What counting threads find stays. -/
def CLay.kept (L : CLay) (T H n : Nat) (rows : List (List Nat)) : Kept := ⟨L.foot rows, CMem L T H n rows, fun _ _ h => CMem.frame h, fun _ _ h hb => h.real hb⟩
end Go.Proofs.Ytdedmmjmiakidaa
/- Plain words: what a thread knows of its own memory between two calls; its words. No condition. -/
namespace Go.Proofs.Ytdedmmjmiakidaa
open Go.Conc Go.RowKit
section
variable {J : Job} {K : Client J} {Wg : Nat} {s : SV}
abbrev TIx (K : Client J) : Type := Nat × (K.core.spec.St × Option K.core.spec.Pc) × Tab
/-- A thread between two calls: the state now, the state to be reached. -/
structure TK (K : Client J) (Wg : Nat) (s : SV) (n : TIx K) (a : J.St) (b : K.B) (F : (J.St × K.B) × Option (J.Pos × K.C)) (w : World) : Prop where
  mem : s ∈ n.2.2
  off : Off Wg n.2.2
  sh : ShOk (WgL Wg) Wg n.2.2
  wd : Wd Wg n.2.2 w
  rep : ∃ o : Own, RepT K.core.spec Wg n.2.2 ((a, b), o) w ∧ n.2.1 = ((F.1, o), F.2)
variable {n : TIx K} {a a' : J.St} {b b' : K.B} {F : (J.St × K.B) × Option (J.Pos × K.C)} {w : World}
theorem TK.call {p : J.Pos} {c : K.C} (h : TK K Wg s n a b ((a, b), some (p, c)) w) : AtT K Wg s c n n.1 a (a, .inl p) w := by
  obtain ⟨o, h1, h2⟩ := h.rep
  exact ⟨rfl, h.mem, h.off, h.sh, h.wd, b, o, h1, h2⟩
theorem AtT.answer {c : K.C} {k : Nat} {r : J.Res} (h : AtT K Wg s c n k a (a, .inr r) w) : ∃ b, TK K Wg s n a b (K.fin c r (a, b)) w := by
  obtain ⟨h1, h2, h3, h4, h5, b, o, h6, h7⟩ := h
  exact ⟨b, h2, h3, h4, h5, o, h6, h7⟩
theorem TK.done (h : TK K Wg s n a b ((a, b), none) w) : ThrPost K.core.spec Wg (WgL Wg) s n (.tuple #[]) w := by
  obtain ⟨o, h1, h2⟩ := h.rep
  obtain ⟨n1, E, θ⟩ := n
  have h2 : E = (((a, b), o), none) := h2
  subst h2
  exact ⟨rfl, n1, _, θ, rfl, h.mem, h.off, h.sh, h.wd, h1⟩
/-- What a thread's own step may do to its memory. -/
structure Mv (K : Client J) (a a' : J.St) (b b' : K.B) (u u' : World) : Prop where
  rep : J.Rep a' u'
  repB : K.RepB b' u'
  dis : ∀ x, J.foot a' x → ¬ K.footB b' x
  same : Sm (fun x => J.foot a x ∨ K.footB b x) u u'
  grow : ∀ x, J.foot a' x ∨ K.footB b' x → (J.foot a x ∨ K.footB b x) ∨ u.heap.size ≤ x
theorem Mv.refl {u : World} (h1 : J.Rep a u) (h2 : K.RepB b u) (h3 : ∀ x, J.foot a x → ¬ K.footB b x) : Mv K a a b b u u := ⟨h1, h2, h3, Sm.refl _ _, fun _ h => .inl h⟩
theorem Mv.spec {u u' : World} (o : Own) (h : Mv K a a' b b' u u') (hr : K.core.spec.Rep ((a, b), o) u) : K.core.spec.Rep ((a', b'), o) u' := by
  obtain ⟨hY, ho⟩ := hr
  refine ⟨⟨h.rep, h.repB, h.dis⟩, fun x ob hob => ?_, h.same.os.trans ho.os, h.same.output.trans ho.out⟩
  obtain ⟨q1, q2, q3⟩ := ho.on x ob hob
  have q2 : ¬ (J.foot a x ∨ K.footB b x) := q2
  have hl := (Array.getElem?_eq_some_iff.1 q1).1
  refine ⟨?_, fun hx => ?_, q3⟩
  · rw [h.same.block x hl q2]; exact q1
  · rcases h.grow x hx with h' | h'
    · exact q2 h'
    · omega
theorem TK.lone (h : TK K Wg s n a b F w) : ∃ u, Ps0 Try.prog (sig Wg n.2.2) w u ∧ J.Rep a u ∧ K.RepB b u ∧ ∀ x, J.foot a x → ¬ K.footB b x := by
  obtain ⟨o, h1, _⟩ := h.rep
  have hu := spoil_ps (P := Try.prog) no_steps (real_of h.off h.wd.kt h.wd.wg)
  exact ⟨_, hu, (h1 _ hu).1⟩
theorem TK.rwg {w' : World} (h : TK K Wg s n a b F w) (hR : RWg tWg Wg w w') : TK K Wg s n a b F w' := by
  obtain ⟨o, h1, h2⟩ := h.rep
  exact ⟨h.mem, h.off, h.sh, h.wd.rwg h.off hR, o, h1.rwg h.off h.wd hR, h2⟩
/-- A piece by its walk alone. -/
theorem aloneTK {c : Code} {t : Array Value} {Q : TIx K → Exit → Array Value → World → Prop} (h : TK K Wg s n a b F w) (hc : okCode thrOk false c = true)
    (hwp : ∀ u, J.Rep a u → K.RepB b u → (∀ x, J.foot a x → ¬ K.footB b x) → c.wp Try.prog (onlyN fun a₁ u' => a₁.defers = [] ∧ ∃ a' b', Mv K a a' b b' u u' ∧ ∀ w', TK K Wg s n a' b' F w' → Q n .normal a₁.tmps w') ⟨t, []⟩ u) : cps (envT K.core.spec Wg (WgL Wg) s) c Q n t w := by
  obtain ⟨o, h1, h2⟩ := h.rep
  obtain ⟨n1, E, θ⟩ := n
  refine aloneT h.off h.sh h.wd hc fun u hu => ?_
  have hr := h1 u hu
  refine wp_mono (hwp u hr.1.1 hr.1.2.1 hr.1.2.2) fun e a₁ u' q => ?_
  cases e with
  | normal =>
    obtain ⟨q1, a', b', q2, q3⟩ := q
    refine ⟨rfl, q1, fun w' hp hwd _ => q3 w' ⟨h.mem, h.off, h.sh, hwd, o, RepT.intro hp (q2.spec o hr), h2⟩⟩
  | _ => exact q.elim
section region
variable {ops : Array Oper} {i : Nat} {o : Oper} {l : List Nat} {t : Array Value} {Qr : TIx K → Array Value → World → Prop}
/-- An operation by its walk alone. -/
theorem opT (h : TK K Wg s n a b F w) (v : Value) (a' : J.St) (b' : K.B) (ho : ops[i]? = some o) (hok : thrOk o.op = true) (hw : Region.wanted o (yielded ops t) = true)
    (hrun : ∀ u, J.Rep a u → K.RepB b u → (∀ x, J.foot a x → ¬ K.footB b x) → ∃ u', ((execOp (⟨t, []⟩ : Act).eval o).run Try.prog u = .ok (.value v) u' ∨ (execOp (⟨t, []⟩ : Act).eval o).run Try.prog u = .ok .skip u' ∧ v = undef) ∧ Mv K a a' b b' u u')
    (hk : ∀ w', TK K Wg s n a' b' F w' → cpsR (envT K.core.spec Wg (WgL Wg) s) ops l Qr n ((⟨t, []⟩ : Act).put o.dst v).tmps w') : cpsR (envT K.core.spec Wg (WgL Wg) s) ops (i :: l) Qr n t w := by
  obtain ⟨oo, h1, h2⟩ := h.rep
  obtain ⟨n1, E, θ⟩ := n
  have real := real_of h.off h.wd.kt h.wd.wg
  have U : Suits Try.prog (sig Wg θ) (RWg tWg Wg) (DH Wg (WgL Wg) (KT θ) (StT θ) (isCh θ)) (KR Wg θ) := suits h.off fun l hl => (h.sh l hl).imp fun a h => ⟨h.1, h.2.1⟩
  have F0 := thr_fit (sig Wg θ)
  refine cpsR_op (envT_ok _ _ _ _) ho hw fun w₁ hR => ?_
  have hR : RWg tWg Wg w w₁ := hR
  have hp0 := spoil_ps (P := Try.prog) no_steps real
  have hp1 : Ps0 Try.prog (sig Wg θ) w₁ (spoil (sig Wg θ) w) := Ps.others hp0 (U.oth _ _ hR)
  have hT := F0.op (⟨t, []⟩ : Act).eval (reads_act _) o hok
  let T : Nat → Question → Nat := fun k => w₁.tape (w₁.drawn + (k - (spoil (sig Wg θ) w).drawn))
  have hp2 := hp0.dealt T
  have hr0 := h1 _ hp2
  obtain ⟨u', hr, hm⟩ := hrun _ hr0.1.1 hr0.1.2.1 hr0.1.2.2
  have key : ∀ nx, (execOp (⟨t, []⟩ : Act).eval o).run Try.prog (World.deal (spoil (sig Wg θ) w) T) = .ok nx u' → ∃ w' es', (execOp (⟨t, []⟩ : Act).eval o).runT Try.prog w₁ #[] = (.ok nx w', es') ∧ DH Wg (WgL Wg) (KT θ) (StT θ) (isCh θ) w₁ w' es' ∧ TK K Wg s (n1, E, θ) a' b' F w' := fun nx hr => by
    obtain ⟨w', es', q1, q2, q3, q4⟩ := hT.mild.sim u'.drawn w₁ _ nx u' #[] (hp1.deal u'.drawn) hr (Nat.le_refl _)
    have hKR : KR Wg θ w w' := KR.trans _ _ _ (U.kr _ _ hR) (U.kf _ _ _ _ q3)
    exact ⟨w', es', by simpa using q1, U.list _ _ _ _ _ q3 q4, h.mem, h.off, h.sh, h.wd.kr hKR, oo, RepT.intro q2.off (hm.spec oo hr0), h2⟩
  rcases hr with hr | ⟨hr, rfl⟩
  · obtain ⟨w', es', q1, q2, q3⟩ := key _ hr
    exact ⟨v, w', es', .inl q1, q2, hk w' q3⟩
  · obtain ⟨w', es', q1, q2, q3⟩ := key _ hr
    exact ⟨undef, w', es', .inr ⟨q1, rfl⟩, q2, hk w' q3⟩
/-- A read. -/
theorem readTK (h : TK K Wg s n a b F w) (v : Value) (ho : ops[i]? = some o) (hok : thrOk o.op = true) (hw : Region.wanted o (yielded ops t) = true)
    (hrun : ∀ u, J.Rep a u → K.RepB b u → (execOp (⟨t, []⟩ : Act).eval o).run Try.prog u = .ok (.value v) u)
    (hk : ∀ w', TK K Wg s n a b F w' → cpsR (envT K.core.spec Wg (WgL Wg) s) ops l Qr n ((⟨t, []⟩ : Act).put o.dst v).tmps w') : cpsR (envT K.core.spec Wg (WgL Wg) s) ops (i :: l) Qr n t w :=
  opT h v a b ho hok hw (fun u h1 h2 h3 => ⟨u, .inl (hrun u h1 h2), Mv.refl h1 h2 h3⟩) hk
end region
end
end Go.Proofs.Ytdedmmjmiakidaa
/- Plain words: a region that draws its order, in company, by what holds of each set of what is done. No condition. -/
namespace Go.Proofs.Ytdedmmjmiakidaa
open Go.Conc Go.RowKit
section
variable {md : Region.Mode} {ops : Array Oper} {r : Nat → Nat}
/-- Who is done has his due done. -/
def Closed (md : Region.Mode) (ops : Array Oper) (listed : Array Bool) : Prop := ∀ j o, ops[j]? = some o → listed.getD j false = true → ∀ e ∈ o.after, Region.binds md e = true → listed.getD e.on false = true
/-- Each waits for lower ones alone. -/
def upward (md : Region.Mode) (r : Nat → Nat) (ops : Array Oper) : Bool := (List.range ops.size).all fun i => (ops[i]?).all fun o => o.after.all fun e => !Region.binds md e || (decide (r e.on < r i) && decide (e.on < ops.size))
theorem upward_on (h : upward md r ops = true) {i : Nat} {o : Oper} (ho : ops[i]? = some o) : ∀ e ∈ o.after, Region.binds md e = true → r e.on < r i ∧ e.on < ops.size := by
  have hi := (Array.getElem?_eq_some_iff.1 ho).1
  have h1 := List.all_eq_true.1 h i (List.mem_range.2 hi)
  rw [ho] at h1
  intro e he hb
  have := Array.all_eq_true_iff_forall_mem.1 h1 e he
  simpa [hb] using this
theorem ready_mem {listed : Array Bool} {i : Nat} (h : i ∈ Region.ready md ops listed) : ∃ o, ops[i]? = some o ∧ listed.getD i true = false ∧ ∀ e ∈ o.after, Region.binds md e = true → listed.getD e.on false = true := by
  obtain ⟨h1, h2⟩ := List.mem_filter.1 h
  have hi := List.mem_range.1 h1
  simp only [Bool.and_eq_true, Bool.not_eq_true'] at h2
  refine ⟨ops[i], Array.getElem?_eq_getElem hi, h2.1, fun e he hb => ?_⟩
  have h3 := h2.2
  rw [Array.getElem?_eq_getElem hi] at h3
  simp only [Option.map_some, Option.getD_some] at h3
  have := Array.all_eq_true_iff_forall_mem.1 h3 e he
  simpa [hb] using this
theorem getD_setT (listed : Array Bool) (i j : Nat) (d : Bool) (hi : i < listed.size) : (listed.setIfInBounds i true).getD j d = if j = i then true else listed.getD j d := by
  simp only [Array.getD_eq_getD_getElem?, Array.getElem?_setIfInBounds]
  by_cases e : i = j
  · subst e; simp [hi]
  · rw [if_neg e, if_neg (fun h => e h.symm)]
theorem getD_low {listed : Array Bool} {i : Nat} (h : listed.getD i true = false) : i < listed.size := by
  rw [Array.getD_eq_getD_getElem?] at h
  by_cases hi : i < listed.size
  · exact hi
  · rw [Array.getElem?_eq_none (by omega)] at h
    cases h
theorem Closed.next {listed : Array Bool} (h : Closed md ops listed) {i : Nat} {o : Oper} (ho : ops[i]? = some o) (hi : i < listed.size) (hr : ∀ e ∈ o.after, Region.binds md e = true → listed.getD e.on false = true) : Closed md ops (listed.setIfInBounds i true) := by
  intro j o' ho' hj e he hb
  rw [getD_setT _ _ _ _ hi] at hj ⊢
  by_cases e1 : e.on = i
  · rw [if_pos e1]
  · rw [if_neg e1]
    by_cases e2 : j = i
    · subst e2
      rw [ho] at ho'
      obtain rfl := Option.some.inj ho'
      exact hr e he hb
    · rw [if_neg e2] at hj
      exact h j o' ho' hj e he hb
theorem ready_none (hu : upward md r ops = true) {listed : Array Bool} (hsz : listed.size = ops.size) (h : Region.ready md ops listed = []) : ∀ i, i < ops.size → listed.getD i true = true := by
  have key : ∀ N i, r i = N → i < ops.size → listed.getD i true = true := by
   intro N
   induction N using Nat.strongRecOn with
   | ind N ih =>
    intro i hN hi
    cases hl : listed.getD i true with
    | true => rfl
    | false =>
      exfalso
      have hsz := getD_low hl
      have : i ∈ Region.ready md ops listed := by
        refine List.mem_filter.2 ⟨List.mem_range.2 hi, ?_⟩
        rw [hl, Array.getElem?_eq_getElem hi]
        simp only [Bool.not_false, Bool.true_and, Option.map_some, Option.getD_some]
        refine Array.all_eq_true_iff_forall_mem.2 fun e he => ?_
        cases hbd : Region.binds md e with
        | false => rfl
        | true =>
        have h1 := upward_on hu (Array.getElem?_eq_getElem hi) e he hbd
        have h2 := ih (r e.on) (by rw [← hN]; exact h1.1) e.on rfl h1.2
        have h3 : listed.getD e.on false = true := by
          rw [Array.getD_eq_getD_getElem?] at h2 ⊢
          cases hq : listed[e.on]? with
          | none =>
            exfalso
            have hle := Array.getElem?_eq_none_iff.1 hq
            have := h1.2
            omega
          | some x => rw [hq] at h2; exact h2
        simp [h3]
      rw [h] at this
      cases this
  exact fun i => key (r i) i rfl
variable {E : Env} {Qr : E.ι → Array Value → World → Prop}
/-- By an invariant over what is done. -/
theorem cpsR_ord (hu : upward md r ops = true) (Inv : Array Bool → E.ι → Array Value → World → Prop)
    (hstep : ∀ listed i o l n t w, listed.size = ops.size → ops[i]? = some o → listed.getD i true = false → (∀ e ∈ o.after, Region.binds md e = true → listed.getD e.on false = true) → Closed md ops listed → Inv listed n t w →
      (∀ n' t' w', Inv (listed.setIfInBounds i true) n' t' w' → cpsR E ops l Qr n' t' w') → cpsR E ops (i :: l) Qr n t w)
    (hend : ∀ listed n t w, listed.size = ops.size → (∀ i, i < ops.size → listed.getD i true = true) → Inv listed n t w → cpsR E ops [] Qr n t w) :
    ∀ {listed : Array Bool} {l : List Nat}, Ord md ops listed l → listed.size = ops.size → Closed md ops listed → ∀ {n t w}, Inv listed n t w → cpsR E ops l Qr n t w := by
  intro listed l h
  induction h with
  | nil h => exact fun hs _ n t w hi => hend _ n t w hs (ready_none hu hs h) hi
  | cons h hl ih =>
    intro hs hc n t w hi
    obtain ⟨o, ho, h1, h2⟩ := ready_mem h
    have hlt := getD_low h1
    exact hstep _ _ o _ n t w hs ho h1 h2 hc hi fun n' t' w' hi' => ih (by simpa using hs) (hc.next ho hlt h2) hi'
/-- A region that draws, so. -/
theorem cps_ord (O : E.Ok) (hP : E.P.follows .mixedOrders = true) (hu : upward .any r ops = true) {id : Nat} {Q : E.ι → Exit → Array Value → World → Prop} (Inv : Array Bool → E.ι → Array Value → World → Prop)
    (hstep : ∀ listed i o l n t w, listed.size = ops.size → ops[i]? = some o → listed.getD i true = false → (∀ e ∈ o.after, Region.binds .any e = true → listed.getD e.on false = true) → Closed .any ops listed → Inv listed n t w →
      (∀ n' t' w', Inv (listed.setIfInBounds i true) n' t' w' → cpsR E ops l (fun n t w => Q n .normal t w) n' t' w') → cpsR E ops (i :: l) (fun n t w => Q n .normal t w) n t w)
    (hend : ∀ listed n t w, listed.size = ops.size → (∀ i, i < ops.size → listed.getD i true = true) → Inv listed n t w → cpsR E ops [] (fun n t w => Q n .normal t w) n t w)
    {n : E.ι} {t : Array Value} {w : World} (h : Inv (Array.replicate ops.size false) n t w) : cps E (.region id ops true) Q n t w :=
  cps_region_draw O fun m => cpsR_ord hu Inv hstep hend (schedule_ord hP ops m) (by simp) (fun j o ho hj => by
    exfalso
    have hi := (Array.getElem?_eq_some_iff.1 ho).1
    rw [Array.getD_eq_getD_getElem?] at hj
    simp [hi] at hj) h
end
end Go.Proofs.Ytdedmmjmiakidaa
/- Plain words: a frame under a region that draws its order. No condition. -/
namespace Go.Proofs.Ytdedmmjmiakidaa
open Go.Conc Go.RowKit
section
variable {ops : Array Oper} {base t t' : Array Value} {val : Nat → Value} {listed : Array Bool} {i j s : Nat}
def dstOf (ops : Array Oper) (j : Nat) : Option Nat := (ops[j]?).bind (·.dst)
/-- No slot is written twice, none lies outside. -/
structure ApartD (ops : Array Oper) (N : Nat) : Prop where
  one : ∀ j j' s, dstOf ops j = some s → dstOf ops j' = some s → j = j'
  low : ∀ j s, dstOf ops j = some s → s < N
/-- The frame where these are done. -/
structure FrD (ops : Array Oper) (base : Array Value) (val : Nat → Value) (listed : Array Bool) (t : Array Value) : Prop where
  size : t.size = base.size
  on : ∀ j s, listed.getD j false = true → dstOf ops j = some s → t[s]? = some (val j)
  off : ∀ s, (∀ j, listed.getD j false = true → dstOf ops j ≠ some s) → t[s]? = base[s]?
theorem FrD.get (h : FrD ops base val listed t) (hl : listed.getD j false = true) (hd : dstOf ops j = some s) : t.getD s undef = val j := by
  rw [Array.getD_eq_getD_getElem?, h.on j s hl hd]; rfl
theorem FrD.low (h : FrD ops base val listed t) (hd : ∀ j, dstOf ops j ≠ some s) : t.getD s undef = base.getD s undef := by
  rw [Array.getD_eq_getD_getElem?, h.off s fun j _ => hd j, Array.getD_eq_getD_getElem?]
theorem FrD.start : FrD ops base val (Array.replicate ops.size false) base := ⟨rfl, fun j s hl _ => by
  exfalso
  rw [Array.getD_eq_getD_getElem?, Array.getElem?_replicate] at hl
  split at hl <;> simp at hl, fun s _ => rfl⟩
theorem FrD.put (h : FrD ops base val listed t) (ha : ApartD ops base.size) (hi : i < listed.size) : FrD ops base val (listed.setIfInBounds i true) ((⟨t, []⟩ : Act).put (dstOf ops i) (val i)).tmps := by
  cases hd : dstOf ops i with
  | none =>
    simp only [Act.put]
    refine ⟨h.size, fun j s hl hj => ?_, fun s hs => h.off s fun j hl => ?_⟩
    · rw [getD_setT _ _ _ _ hi] at hl
      by_cases e : j = i
      · subst e; rw [hd] at hj; cases hj
      · rw [if_neg e] at hl; exact h.on j s hl hj
    · refine hs j ?_
      rw [getD_setT _ _ _ _ hi]
      split
      · rfl
      · exact hl
  | some d =>
    have hdl := ha.low i d hd
    simp only [Act.put]
    refine ⟨by simpa using h.size, fun j s hl hj => ?_, fun s hs => ?_⟩
    · rw [getD_setT _ _ _ _ hi] at hl
      rw [Array.getElem?_setIfInBounds]
      by_cases e : j = i
      · subst e
        rw [hd] at hj
        obtain rfl := Option.some.inj hj
        rw [if_pos rfl, if_pos (by rw [h.size]; exact hdl)]
      · rw [if_neg e] at hl
        have hne : d ≠ s := fun e' => e (ha.one j i s hj (by rw [hd, e']))
        rw [if_neg hne]
        exact h.on j s hl hj
    · have hne : d ≠ s := fun e' => hs i (by rw [getD_setT _ _ _ _ hi, if_pos rfl]) (by rw [hd, e'])
      rw [Array.getElem?_setIfInBounds, if_neg hne]
      refine h.off s fun j hl => hs j ?_
      rw [getD_setT _ _ _ _ hi]
      split
      · rfl
      · exact hl
theorem FrD.unique (h : FrD ops base val listed t) (h' : FrD ops base val listed t') : t = t' := by
  refine Array.ext_getElem? fun s => ?_
  by_cases e : ∃ j, listed.getD j false = true ∧ dstOf ops j = some s
  · obtain ⟨j, h1, h2⟩ := e
    rw [h.on j s h1 h2, h'.on j s h1 h2]
  · have e : ∀ j, listed.getD j false = true → dstOf ops j ≠ some s := fun j h1 h2 => e ⟨j, h1, h2⟩
    rw [h.off s e, h'.off s e]
/-- The frame behind it all. -/
def allPut (ops : Array Oper) (base : Array Value) (val : Nat → Value) : Nat → Array Value
  | 0 => base
  | k + 1 => ((⟨allPut ops base val k, []⟩ : Act).put (dstOf ops k) (val k)).tmps
def firstN (N : Nat) : Nat → Array Bool
  | 0 => Array.replicate N false
  | k + 1 => (firstN N k).setIfInBounds k true
theorem firstN_size (N : Nat) : ∀ k, (firstN N k).size = N
  | 0 => by simp [firstN]
  | k + 1 => by simp [firstN, firstN_size N k]
theorem firstN_get (N : Nat) : ∀ k, k ≤ N → ∀ j, (firstN N k).getD j false = decide (j < k)
  | 0, _, j => by
    simp only [firstN, Array.getD_eq_getD_getElem?, Array.getElem?_replicate]
    split <;> simp
  | k + 1, hk, j => by
    show ((firstN N k).setIfInBounds k true).getD j false = _
    rw [getD_setT _ _ _ _ (by rw [firstN_size]; omega), firstN_get N k (by omega) j]
    by_cases e : j = k
    · subst e; simp
    · rw [if_neg e]
      by_cases e2 : j < k
      · simp [e2, show j < k + 1 by omega]
      · simp [e2, show ¬ j < k + 1 by omega]
theorem FrD.first (ha : ApartD ops base.size) : ∀ k, k ≤ ops.size → FrD ops base val (firstN ops.size k) (allPut ops base val k)
  | 0, _ => FrD.start
  | k + 1, hk => FrD.put (FrD.first ha k (by omega)) ha (by rw [firstN_size]; omega)
theorem FrD.all (h : FrD ops base val listed t) (ha : ApartD ops base.size) (hs : listed.size = ops.size) (hl : ∀ i, i < ops.size → listed.getD i true = true) : t = allPut ops base val ops.size := by
  have e : listed = firstN ops.size ops.size := by
    refine Array.ext (by rw [hs, firstN_size]) fun i h1 h2 => ?_
    have q1 := hl i (by omega)
    have q2 := firstN_get ops.size ops.size (Nat.le_refl _) i
    rw [Array.getD_eq_getD_getElem?, Array.getElem?_eq_getElem h1] at q1
    rw [Array.getD_eq_getD_getElem?, Array.getElem?_eq_getElem h2] at q2
    simp only [Option.getD_some] at q1 q2
    rw [q1, q2]
    simp [show i < ops.size by omega]
  subst e
  exact h.unique (FrD.first ha ops.size (Nat.le_refl _))
/-- .. told by looking. -/
def apartB (ops : Array Oper) (N : Nat) : Bool := (List.range ops.size).all fun j => match dstOf ops j with
  | none => true
  | some s => decide (s < N) && (List.range ops.size).all fun j' => j' == j || dstOf ops j' != some s
theorem apart_of {N : Nat} (h : apartB ops N = true) : ApartD ops N := by
  have lt : ∀ j s, dstOf ops j = some s → j < ops.size := fun j s hj => by
    unfold dstOf at hj
    by_cases e : j < ops.size
    · exact e
    · rw [Array.getElem?_eq_none (by omega)] at hj
      cases hj
  have key : ∀ j s, dstOf ops j = some s → s < N ∧ ∀ j', j' < ops.size → j' = j ∨ dstOf ops j' ≠ some s := fun j s hj => by
    have h1 := List.all_eq_true.1 h j (List.mem_range.2 (lt j s hj))
    rw [hj] at h1
    simp only [Bool.and_eq_true, decide_eq_true_eq] at h1
    refine ⟨h1.1, fun j' hj' => ?_⟩
    have h2 := List.all_eq_true.1 h1.2 j' (List.mem_range.2 hj')
    simpa using h2
  exact ⟨fun j j' s h1 h2 => (((key j s h1).2 j' (lt j' s h2)).resolve_right fun h => h h2).symm, fun j s h1 => (key j s h1).1⟩
end
end Go.Proofs.Ytdedmmjmiakidaa
/- Plain words: a tally's and a histogram's Add, called by a thread. No condition. -/
namespace Go.Proofs.Ytdedmmjmiakidaa
open Go.Conc Go.RowKit
section
variable {T A H n : Nat} {K : Client (talJob T A H n)} {Wg : Nat} {s : SV} {m : TIx K} {a : TSt} {b : K.B} {w : World}
theorem add_t {c : K.C} {i v : Nat} (hi : i < n) (h : TK K Wg s m a b ((a, b), some (TPos.add i v, c)) w) {Q : TIx K → Value → World → Prop}
    (hq : ∀ (m' : TIx K) (a' : TSt) (b' : K.B) (x : Nat) (w' : World), x < 18446744073709551616 → TK K Wg s m' a' b' (K.fin c (.num x) (a', b')) w' → Q m' (.tuple #[.int .u64 x, .int .i64 0]) w') :
    cpsC (envT K.core.spec Wg (WgL Wg) s) 19 #[.pointer (some ⟨T, 0, none⟩), seatGate s, .int .i64 i, .int .u64 v] Q m w :=
  add_e (gatedT K Wg s c) hi h.call (fun m' k' a' w' x _ hx h' => by
    obtain ⟨b', h''⟩ := AtT.answer h'
    exact hq m' a' b' x w' hx h'')
theorem come_t {c : K.C} {v : Nat} (hv : v < 18446744073709551616) (h : TK K Wg s m a b ((a, b), some (TPos.h1 v, c)) w) {Q : TIx K → Value → World → Prop}
    (hq : ∀ (m' : TIx K) (a' : TSt) (b' : K.B) (w' : World), TK K Wg s m' a' b' (K.fin c .come (a', b')) w' → Q m' (.int .i64 0) w') :
    cpsC (envT K.core.spec Wg (WgL Wg) s) 17 #[.pointer (some ⟨H, 0, none⟩), seatGate s, .int .u64 v] Q m w :=
  come_e (gatedT K Wg s c) hv h.call (fun m' k' a' w' _ h' => by
    obtain ⟨b', h''⟩ := AtT.answer h'
    exact hq m' a' b' w' h'')
end
/-- A region by its number. -/
def findRegion (id : Nat) : Code → Option (Array Oper)
  | .region i ops _ => if i == id then some ops else none
  | .seq a b => (findRegion id a).or (findRegion id b)
  | .cond _ a b => (findRegion id a).or (findRegion id b)
  | .block _ c => findRegion id c
  | .loop c => findRegion id c
  | _ => none
/-- The drawn regions of a counting thread. -/
noncomputable def c3ops : Array Oper := match (Try.f57.body.getD .skip) with
  | .seq _ (.block _ (.loop (.seq _ (.seq (.block _ (.seq (.region _ ops _) _)) _)))) => ops
  | _ => #[]
noncomputable def c4ops : Array Oper := match (Try.f57.body.getD .skip) with
  | .seq _ (.block _ (.loop (.seq _ (.seq (.block _ (.seq _ (.seq (.region _ ops _) _))) _)))) => ops
  | _ => #[]
theorem c3_size : c3ops.size = 24 := by kernel_rfl
theorem c4_size : c4ops.size = 14 := by kernel_rfl
/-- An order in which counting's first drawn region may go. -/
def c3rank (i : Nat) : Nat := if i == 21 then 45 else 2 * i
theorem c3_up : upward .any id c3ops = true := by kernel_rfl
theorem c4_up : upward .any id c4ops = true := by kernel_rfl
theorem c3_apart : ApartD c3ops 71 := apart_of (by kernel_rfl)
theorem c4_apart : ApartD c4ops 71 := apart_of (by kernel_rfl)
end Go.Proofs.Ytdedmmjmiakidaa
/- tally.Below, walked alone. -/
namespace Go.Proofs.Ytdedmmjmiakidaa
open Go.RowKit
set_option linter.unusedVariables false

/-- How many numbers lie in the first k buckets. -/
def upS (m : List Nat) (k : Nat) : Nat := (m.take k).sum
theorem upS_zero (m : List Nat) : upS m 0 = 0 := by simp [upS]
theorem upS_succ (m : List Nat) (k : Nat) (h : k < m.length) : upS m (k + 1) = upS m k + m[k] := by
  unfold upS
  rw [List.take_add_one, List.sum_append, List.getElem?_eq_getElem h]
  simp
theorem upS_mono (m : List Nat) (j k : Nat) (h : j ≤ k) : upS m j ≤ upS m k := by
  induction k with
  | zero => simp at h; simp [h]
  | succ k ih =>
    rcases Nat.lt_or_ge j (k + 1) with h1 | h1
    · have := ih (by omega)
      by_cases hk : k < m.length
      · rw [upS_succ m k hk]; omega
      · have e : upS m (k + 1) = upS m k := by
          simp only [upS]
          rw [List.take_of_length_le (by omega), List.take_of_length_le (by omega)]
        omega
    · have : j = k + 1 := by omega
      subst this; exact Nat.le_refl _

def badArgs (part ofN : Nat) : Prop := ofN = 0 ∨ 1048576 < ofN ∨ ofN < part
def needOf (m : List Nat) (part ofN : Nat) : Nat := (upS m 65 * part + ofN - 1) / ofN

set_option maxRecDepth 100000 in
theorem tbelow_bad (m : List Nat) (hlen : m.length = 67) (part ofN : Nat) (hb : badArgs part ofN) (w : World) :
    Calls Try.prog 12 #[.agg (uw m), .int .u64 part, .int .u64 ofN] w fun e w' => e = .returned (.tuple #[.int .u64 0, .int .i64 2]) ∧ Sm (fun _ => False) w w' := by
  by_cases h0 : ofN = 0
  · subst h0
    go_enter Try.func12, Try.ntmps12
    go_wp2
    go_ret2
    exact ⟨rfl, (Sm.refl _ _).alloc _⟩
  · by_cases h1 : 1048576 < ofN
    · have i1 : (1048576 : Int) < (ofN : Int) := by omega
      have i0 : ((ofN : Int) == 0) = false := by rw [beq_eq_false_iff_ne]; omega
      go_enter Try.func12, Try.ntmps12
      go_wp2
      go_ret2
      exact ⟨rfl, (Sm.refl _ _).alloc _⟩
    · have h2 : ofN < part := by rcases hb with h | h | h <;> first | omega | exact h
      have i1 : ¬ (1048576 : Int) < (ofN : Int) := by omega
      have i2 : (ofN : Int) < (part : Int) := by omega
      have i0 : ((ofN : Int) == 0) = false := by rw [beq_eq_false_iff_ne]; omega
      go_enter Try.func12, Try.ntmps12
      go_wp2
      go_ret2
      exact ⟨rfl, (Sm.refl _ _).alloc _⟩

theorem row_range (w : World) (b T : Nat) (m : List Nat) (k : Nat) (h : Row w b (uw m) T) : w.rangeAt b 0 (uw (m.take k)).toList := by
  intro j v hv
  rw [Nat.zero_add, h.cell j]
  simp only [uw, List.map_take] at hv ⊢
  simp only [List.getElem?_take] at hv
  split at hv
  · simpa using hv
  · cases hv

theorem size_u65 : (Try.prog.info? 24).map (·.size) = some 65 := by kernel_rfl
theorem wpList_load_u65 {ops : Array Oper} {rest : List Oper} {o : Oper} {a : Act} {w : World} {Q : Exit → Act → World → Prop} (hgd : o.guard = none) (x : Operand) (ho : o.op = .load 24 x)
    (b T : Nat) (hx : a.eval x = .pointer (some ⟨b, 0, none⟩)) (m : List Nat) (hlen : m.length = 67) (hr : Row w b (uw m) T) (h : wpList Try.prog ops Q rest (a.put o.dst (.agg (uw (m.take 65)))) w) : wpList Try.prog ops Q (o :: rest) a w := by
  refine wpList_load_mid hgd 24 x ho b 0 hx (uw (m.take 65)).toList _ (row_range _ _ _ m 65 hr) Try.underlying24 rfl (by rw [Array.length_toList, uw_size, List.length_take, hlen, size_u65]; rfl) ?_
  exact h

theorem pow_wrap (k : Nat) (hk : k < 65) : IntKind.u64.wrap (IntKind.u64.wrap (2 ^ k) - 1) = ((2 ^ k - 1 : Nat) : Int) := by
  have e : (2 : Int) ^ k = ((2 ^ k : Nat) : Int) := by simp
  have hp : 0 < 2 ^ k := Nat.pow_pos (by decide)
  rw [e]
  rcases Nat.lt_or_ge k 64 with h | h
  · have : 2 ^ k < 2 ^ 64 := Nat.pow_lt_pow_right (by decide) h
    rw [show (2 : Nat) ^ 64 = 18446744073709551616 from rfl] at this
    simp only [IntKind.wrap_u64]
    omega
  · obtain rfl : k = 64 := by omega
    decide
theorem size_u64 : (Try.prog.info? 23).map (·.size) = some 1 := by kernel_rfl
theorem index_u65 (w : World) (c : List Nat) (k x : Nat) (hk : k < 65) (hc : (uw c)[k]? = some (.int .u64 (x : Int))) : (Instr.index 24 (.agg (uw c)) (.int .i64 (k : Int))).run Try.prog w = .ok (.int .u64 (x : Int)) w := by
  have hn : 0 ≤ (k : Int) ∧ (k : Int) < ((65 : Nat) : Int) := by omega
  cases hq : Try.prog.info? 23 with
  | none => have := size_u64; simp [hq] at this
  | some i =>
    have hs : i.size = 1 := by have := size_u64; simpa [hq] using this
    simp [Instr.index, run_underlying Try.underlying24, asIntOf, hn, hk, part, sizeOf, typeInfo, hq, hs, hc]

set_option maxRecDepth 100000 in
set_option maxHeartbeats 800000 in
theorem tbelow_ok (m : List Nat) (hlen : m.length = 67) (hm : ∀ x ∈ m, x < 18446744073709551616) (part ofN : Nat) (hb : ¬ badArgs part ofN) (w : World) :
    Calls Try.prog 12 #[.agg (uw m), .int .u64 part, .int .u64 ofN] w fun e w' => Sm (fun _ => False) w w' ∧
      ((1099511627776 < upS m 65 ∧ e = .returned (.tuple #[.int .u64 0, .int .i64 4])) ∨
       (upS m 65 ≤ 1099511627776 ∧ ∃ k, k < 65 ∧ needOf m part ofN ≤ upS m (k + 1) ∧ (∀ j, j < k → upS m (j + 1) < needOf m part ofN) ∧ e = .returned (.tuple #[.int .u64 ((2 ^ k - 1 : Nat) : Int), .int .i64 0]))) := by
  have h0 : ofN ≠ 0 := fun h => hb (.inl h)
  have h1 : ¬ 1048576 < ofN := fun h => hb (.inr (.inl h))
  have h2 : ¬ ofN < part := fun h => hb (.inr (.inr h))
  have i1 : ¬ (1048576 : Int) < (ofN : Int) := by omega
  have i2 : ¬ (ofN : Int) < (part : Int) := by omega
  have i0 : ((ofN : Int) == 0) = false := by rw [beq_eq_false_iff_ne]; omega
  have hr0 := Row.new w (uw m) 26
  obtain ⟨w1, hw1⟩ : ∃ w1, w1 = w.alloc (.cells (uw m) 26) := ⟨_, rfl⟩
  have hs1 : Sm (fun _ => False) w w1 := by rw [hw1]; exact (Sm.refl _ _).alloc _
  have HB := Lib.hid hb
  clear hb
  go_enter Try.func12, Try.ntmps12
  go_wp2_with (refine wpList_load_u65 rfl (.tmp 26) rfl w.heap.size _ (by simp [Act.eval]) m hlen hr0 ?_)
  rw [← hw1]
  rw [← hw1] at hr0
  have HR0 := Lib.hid hr0
  have HS1 := Lib.hid hs1
  clear hr0 hs1 hw1
  go_loop [8, 10, 28] (fun s8 s10 s28 => ∃ k : Nat, k ≤ 65 ∧ s28 = .int .i64 k ∧ s8 = .int .u64 (upS m k : Nat) ∧ upS m k ≤ 1099511627776) (fun s8 s10 s28 => 65 - (intOf s28).toNat)
  case atStart => exact ⟨0, by omega, rfl, by rw [upS_zero]; rfl, by rw [upS_zero]; decide⟩
  case round =>
    obtain ⟨k, hk, rfl, rfl, hS⟩ := hrel
    by_cases hlt : k < 65
    · have j1 : (k : Int) < 65 := by omega
      have hp : wrap64 ((k : Int) + 1) = ((k + 1 : Nat) : Int) := by unfold wrap64; omega
      have HP := Lib.hid hp
      clear hp
      have hkm : k < m.length := by omega
      obtain ⟨x, hx⟩ : ∃ x, x = m[k] := ⟨_, rfl⟩
      have hc : (uw (m.take 65))[k]? = some (.int .u64 (x : Int)) := by
        rw [uw_get (m.take 65) k (by simp; omega), hx]; simp
      have hix := index_u65 w1 (m.take 65) k x hlt hc
      have hx64 : x < 18446744073709551616 := by rw [hx]; exact hm _ (List.getElem_mem hkm)
      have hsub : IntKind.u64.wrap (1099511627776 - (upS m k : Nat)) = 1099511627776 - (upS m k : Nat) := by rw [IntKind.wrap_u64]; omega
      have hsucc := upS_succ m k hkm
      rw [← hx] at hsucc
      clear hx
      by_cases hbig : 1099511627776 - (upS m k : Int) < (x : Int)
      · go_wp2
        go_ret2
        refine ⟨HS1.out, .inl ⟨?_, rfl⟩⟩
        have := upS_mono m (k + 1) 65 (by omega)
        omega
      · have hadd : IntKind.u64.wrap ((upS m k : Nat) + (x : Int)) = ((upS m (k + 1) : Nat) : Int) := by rw [IntKind.wrap_u64, hsucc]; omega
        go_wp2
        go_round
        case rel => exact ⟨k + 1, by omega, by first | rw [HP.out] | go_num, by congr 1; omega, by omega⟩
        case measure => (try rw [HP.out]); simp only [intOf]; omega
    · have hkk : k = 65 := by omega
      subst hkk
      have j1 : ¬ (65 : Int) < 65 := by omega
      obtain ⟨p, hp⟩ : ∃ p, p = upS m 65 * part := ⟨_, rfl⟩
      have hp60 : p ≤ 1152921504606846976 := by
        rw [hp]; exact Nat.le_trans (Nat.mul_le_mul hS (show part ≤ 1048576 by omega)) (by decide)
      have hmul : IntKind.u64.wrap ((upS m 65 : Nat) * (part : Int)) = (p : Int) := by
        rw [show ((upS m 65 : Nat) : Int) * (part : Int) = (p : Int) by rw [hp]; simp, IntKind.wrap_u64]; omega
      have hadd : IntKind.u64.wrap ((p : Int) + (ofN : Int)) = (p : Int) + (ofN : Int) := by rw [IntKind.wrap_u64]; omega
      have hsub : IntKind.u64.wrap ((p : Int) + (ofN : Int) - 1) = ((p + ofN - 1 : Nat) : Int) := by rw [IntKind.wrap_u64]; omega
      clear HB
      go_wp2_with (refine wpList_load_u65 rfl (.tmp 47) rfl w.heap.size _ (by simp [Act.eval]) m hlen HR0.out ?_)
      obtain ⟨N, hN⟩ : ∃ N, N = needOf m part ofN := ⟨_, rfl⟩
      have hneed : (((upS m 65 : Nat) : Int) * (part : Int) + (ofN : Int) - 1) / (ofN : Int) = (N : Int) := by
        rw [hN, show ((upS m 65 : Nat) : Int) * (part : Int) = (p : Int) by rw [hp]; simp, show (p : Int) + (ofN : Int) - 1 = ((p + ofN - 1 : Nat) : Int) by omega, needOf, Int.natCast_ediv, ← hp]
      have hNle : N ≤ upS m 65 := by
        rw [hN, needOf]
        have h3 : upS m 65 * part ≤ upS m 65 * ofN := Nat.mul_le_mul_left _ (by omega)
        have h4 : ofN * (upS m 65 + 1) = upS m 65 * ofN + ofN := by rw [Nat.mul_succ, Nat.mul_comm]
        have h5 : upS m 65 * part + ofN - 1 < ofN * (upS m 65 + 1) := by rw [h4]; omega
        exact Nat.lt_succ_iff.1 (Nat.div_lt_of_lt_mul h5)
      rw [hneed]
      have HN := Lib.hid hN
      have HSZ := Lib.hid hS
      clear hmul hadd hsub hneed hp hN
      go_loop [12, 13, 14, 49] (fun s12 s13 s14 s49 => ∃ k : Nat, k ≤ 65 ∧ s49 = .int .i64 k ∧ s12 = .int .u64 (upS m k : Nat) ∧ ∀ j, j < k → upS m (j + 1) < N) (fun s12 s13 s14 s49 => 65 - (intOf s49).toNat)
      case atStart => exact ⟨0, by omega, rfl, by rw [upS_zero]; rfl, fun j h => absurd h (by omega)⟩
      case round =>
        obtain ⟨k, hk, rfl, rfl, hJ⟩ := hrel
        have HJ := Lib.hid hJ
        clear hJ
        by_cases hlt : k < 65
        · have j1 : (k : Int) < 65 := by omega
          have hp : wrap64 ((k : Int) + 1) = ((k + 1 : Nat) : Int) := by unfold wrap64; omega
          have HP := Lib.hid hp
          clear hp
          have hkm : k < m.length := by omega
          obtain ⟨x, hx⟩ : ∃ x, x = m[k] := ⟨_, rfl⟩
          have hc : (uw (m.take 65))[k]? = some (.int .u64 (x : Int)) := by
            rw [uw_get (m.take 65) k (by simp; omega), hx]; simp
          have hix := index_u65 w1 (m.take 65) k x hlt hc
          have hsucc := upS_succ m k hkm
          rw [← hx] at hsucc
          have hmono := upS_mono m (k + 1) 65 (by omega)
          clear hx
          obtain ⟨S1, hS1⟩ : ∃ S1, S1 = upS m (k + 1) := ⟨_, rfl⟩
          rw [← hS1] at hsucc hmono
          have hadd : IntKind.u64.wrap ((upS m k : Nat) + (x : Int)) = (S1 : Int) := by rw [IntKind.wrap_u64, hsucc]; omega
          have hadd' : ((upS m k : Nat) : Int) + (x : Int) = (S1 : Int) := by rw [hsucc]; omega
          have H1 := Lib.hid hS1
          clear hS1 hsucc
          by_cases hge : (N : Int) ≤ (S1 : Int)
          · go_wp2
            rw [pow_wrap k hlt]
            go_ret2
            refine ⟨HS1.out, .inr ?_⟩
            rw [H1.out, HN.out] at hge
            first
              | exact ⟨HSZ.out, k, hlt, by omega, fun j hj => by rw [← HN.out]; exact HJ.out j hj, rfl⟩
              | exact ⟨k, hlt, by omega, fun j hj => by rw [← HN.out]; exact HJ.out j hj, rfl⟩
          · go_wp2
            go_round
            case rel => exact ⟨k + 1, by omega, by first | rw [HP.out] | go_num, by rw [H1.out], fun j hj => by
              rcases Nat.lt_or_ge j k with h | h
              · exact HJ.out j h
              · obtain rfl : j = k := by omega
                rw [← H1.out]; omega⟩
            case measure => (try rw [HP.out]); simp only [intOf]; omega
        · have hkk : k = 65 := by omega
          subst hkk
          have := HJ.out 64 (by omega)
          simp only [Nat.reduceAdd] at this
          omega
end Go.Proofs.Ytdedmmjmiakidaa
/- Histograms as values: their equality; Join by definition; tally.Join, walked alone. -/
namespace Go.Proofs.Ytdedmmjmiakidaa
open Go.RowKit
set_option linter.unusedVariables false

def lits (m : List Nat) : List Lit := m.map fun (x : Nat) => Lit.int .u64 (x : Int)
theorem lits_inj {a b : List Nat} : lits a = lits b ↔ a = b := by
  refine ⟨fun h => ?_, fun h => by rw [h]⟩
  unfold lits at h
  exact List.map_inj_right (fun x y e => by simp at e; omega) |>.1 h

theorem keyLits_u64 (d x : Nat) (hx : x < 18446744073709551616) : Try.prog.keyLits (d + 1) 23 [.int .u64 (x : Int)] = some [.int .u64 (x : Int)] := by
  have hw : (Lit.int .u64 (x : Int)).wf = true := by
    simp [Lit.wf, IntKind.min, IntKind.max, IntKind.signed, IntKind.bits]; omega
  unfold Program.keyLits
  rw [Try.underlying23]
  simp [hw]

theorem mapM_one {α β : Type} (f : α → Option β) (g : α → β) : ∀ (l : List α), (∀ x ∈ l, f x = some (g x)) → l.mapM f = some (l.map g)
  | [], _ => by simp
  | x :: l, h => by
    rw [List.mapM_cons, h x (by simp), mapM_one f g l (fun y hy => h y (by simp [hy]))]
    rfl

theorem flatten_sing {α β : Type} (g : α → β) : ∀ (l : List α), (l.map fun i => [g i]).flatten = l.map g
  | [] => rfl
  | x :: l => by rw [List.map_cons, List.flatten_cons, flatten_sing g l]; rfl

theorem drop_take_one (m : List Nat) (i : Nat) (h : i < m.length) : ((m.map fun (x : Nat) => Value.int .u64 (x : Int)).drop i).take 1 = [.int .u64 ((m[i] : Nat) : Int)] := by
  rw [← List.map_drop, ← List.map_take, List.take_one]
  simp [List.head?_drop, h]

theorem keyLits_u65 (d : Nat) (m : List Nat) (hl : m.length = 65) (hm : ∀ x ∈ m, x < 18446744073709551616) : Try.prog.keyLits (d + 2) 24 (uw m).toList = some (lits m) := by
  have hce : Try.prog.cellsOf 23 = 1 := by kernel_rfl
  have hct : Try.prog.cellsOf 24 = 65 := by kernel_rfl
  unfold Program.keyLits
  rw [Try.underlying24]
  have hlen : (uw m).toList.length = 65 := by rw [Array.length_toList, uw_size, hl]
  simp only [hlen, hct, hce, if_true]
  have e : (List.range 65).mapM (fun i => Try.prog.keyLits (d + 1) 23 (((uw m).toList.drop (i * 1)).take 1)) = some ((List.range 65).map fun i => [Lit.int .u64 ((m.getD i 0 : Nat) : Int)]) := by
    refine mapM_one _ _ _ (fun i hi => ?_)
    have hi' : i < m.length := by rw [hl]; simpa using hi
    have : ((uw m).toList.drop (i * 1)).take 1 = [.int .u64 ((m[i] : Nat) : Int)] := by
      rw [Nat.mul_one]
      exact drop_take_one m i hi'
    rw [this, keyLits_u64 d _ (hm _ (List.getElem_mem hi'))]
    simp [List.getD, hi']
  rw [e]
  simp only [Option.map_some, Option.some.injEq, lits]
  rw [flatten_sing]
  apply List.ext_getElem
  · simp [hl]
  · intro i h1 h2
    have hi : i < m.length := by simpa using h2
    simp [List.getD, hi]

theorem keyLits_hist (d : Nat) (m : List Nat) (hl : m.length = 67) (hm : ∀ x ∈ m, x < 18446744073709551616) : Try.prog.keyLits (d + 3) 26 (uw m).toList = some (lits m) := by
  have hce : Try.prog.cellsOf 23 = 1 := by kernel_rfl
  have hct : Try.prog.cellsOf 24 = 65 := by kernel_rfl
  have hch : Try.prog.cellsOf 26 = 67 := by kernel_rfl
  unfold Program.keyLits
  rw [Try.underlying26]
  have hlen : (uw m).toList.length = 67 := by rw [Array.length_toList, uw_size, hl]
  have e1 : ((uw m).toList.drop 0).take 65 = (uw (m.take 65)).toList := by simp [uw]
  have e2 : ((uw m).toList.drop 65).take 1 = [.int .u64 ((m[65]'(by omega) : Nat) : Int)] := drop_take_one m 65 (by omega)
  have e3 : ((uw m).toList.drop 66).take 1 = [.int .u64 ((m[66]'(by omega) : Nat) : Int)] := drop_take_one m 66 (by omega)
  have k1 := keyLits_u65 d (m.take 65) (by simp [hl]) (fun x hx => hm x (List.mem_of_mem_take hx))
  have k2 := keyLits_u64 (d + 1) (m[65]'(by omega)) (hm _ (List.getElem_mem _))
  have k3 := keyLits_u64 (d + 1) (m[66]'(by omega)) (hm _ (List.getElem_mem _))
  rw [List.drop_zero] at e1
  have k1' : Try.prog.keyLits (d + 2) 24 (List.take 65 (uw m).toList) = some (lits (m.take 65)) := by rw [e1]; exact k1
  simp [hlen, hct, hce, hch, e2, e3, k2, k3, k1']
  have hd : m.drop 65 = [m[65]'(by omega), m[66]'(by omega)] := by
    rw [List.drop_eq_getElem_cons (by omega), List.drop_eq_getElem_cons (by omega), List.drop_eq_nil_of_le (by omega)]
  have : m = m.take 65 ++ m.drop 65 := (List.take_append_drop 65 m).symm
  rw [hd] at this
  conv => rhs; rw [this]
  simp [lits]

set_option maxRecDepth 100000 in
theorem eq_hist (a b : List Nat) (ha : a.length = 67) (hb : b.length = 67) (ham : ∀ x ∈ a, x < 18446744073709551616) (hbm : ∀ x ∈ b, x < 18446744073709551616) (w : World) :
    (Op.equalIn 10000 26 (.agg (uw a)) (.agg (uw b))).run Try.prog w = .ok (decide (a = b)) w := by
  have hch : Try.prog.cellsOf 26 = 67 := by kernel_rfl
  have f : ∀ m : List Nat, m.length = 67 → (Value.agg (uw m)).formed Try.prog 26 = true := by
    intro m hm
    unfold Value.formed
    rw [Try.underlying26]
    simp [uw_size, hm, hch]
  obtain ⟨r, hr, hiff⟩ := run_equalIn_deep (P := Try.prog) 9990 10 26 (by kernel_rfl) w 10 10 (.agg (uw a)) (.agg (uw b)) (lits a) (lits b) (f a ha) (f b hb) (keyLits_hist 7 a ha ham) (keyLits_hist 7 b hb hbm)
  rw [lits_inj] at hiff
  have e : r = decide (a = b) := by
    cases r
    · simp; intro e; exact absurd (hiff.2 e) (by simp)
    · simp [hiff.1 rfl]
  rw [e] at hr
  exact hr

theorem uw_extract (a : List Nat) (h : a.length = 67) : (uw a).extract 0 65 = uw (a.take 65) := by
  apply Array.ext'
  simp [uw]
set_option maxRecDepth 100000 in
/-- The counts' equality, as the walk leaves it. -/
theorem eq_counts (a b : List Nat) (ha : a.length = 67) (hb : b.length = 67) (ham : ∀ x ∈ a, x < 18446744073709551616) (hbm : ∀ x ∈ b, x < 18446744073709551616) (w : World) :
    (Op.equalIn 9999 24 (.agg ((uw a).extract 0 65)) (.agg ((uw b).extract 0 65))).run Try.prog w = .ok (decide (a.take 65 = b.take 65)) w := by
  have hch : Try.prog.cellsOf 24 = 65 := by kernel_rfl
  have f : ∀ m : List Nat, m.length = 65 → (Value.agg (uw m)).formed Try.prog 24 = true := by
    intro m hm
    unfold Value.formed
    rw [Try.underlying24]
    simp [uw_size, hm, hch]
  have la : (a.take 65).length = 65 := by simp [ha]
  have lb : (b.take 65).length = 65 := by simp [hb]
  obtain ⟨r, hr, hiff⟩ := run_equalIn_deep (P := Try.prog) 9989 10 24 (by kernel_rfl) w 10 10 (.agg (uw (a.take 65))) (.agg (uw (b.take 65))) (lits (a.take 65)) (lits (b.take 65)) (f _ la) (f _ lb)
    (keyLits_u65 8 _ la (fun x hx => ham x (List.mem_of_mem_take hx))) (keyLits_u65 8 _ lb (fun x hx => hbm x (List.mem_of_mem_take hx)))
  rw [lits_inj] at hiff
  have e : r = decide (a.take 65 = b.take 65) := by
    cases r
    · simp; intro e; exact absurd (hiff.2 e) (by simp)
    · simp [hiff.1 rfl]
  rw [e] at hr
  rw [uw_extract a ha, uw_extract b hb]
  exact hr
end Go.Proofs.Ytdedmmjmiakidaa
/- Join by definition; tally.Join, walked alone. -/
namespace Go.Proofs.Ytdedmmjmiakidaa
open Go.RowKit
set_option linter.unusedVariables false
set_option linter.unusedSimpArgs false

def hzero : List Nat := List.replicate 67 0
/-- The first k cells added. -/
def hup (a b : List Nat) (k : Nat) : List Nat := (List.range 67).map fun i => if i < k then (a.getD i 0 + b.getD i 0) % 18446744073709551616 else a.getD i 0
def hjoin (a b : List Nat) : List Nat := (hup a b 66).set 66 (max (a.getD 66 0) (b.getD 66 0))
def joinN (f : Nat → List Nat) : Nat → List Nat
  | 0 => hzero
  | n + 1 => hjoin (joinN f n) (f n)

theorem hup_len (a b : List Nat) (k : Nat) : (hup a b k).length = 67 := by simp [hup]
theorem hjoin_len (a b : List Nat) : (hjoin a b).length = 67 := by simp [hjoin, hup]
theorem joinN_len (f : Nat → List Nat) : ∀ n, (joinN f n).length = 67
  | 0 => by simp [joinN, hzero]
  | n + 1 => by simp [joinN, hjoin_len]
theorem hup_zero (a b : List Nat) (h : a.length = 67) : hup a b 0 = a := by
  apply List.ext_getElem
  · simp [hup, h]
  · intro i h1 h2
    simp [hup, h2]
theorem hup_getD (a b : List Nat) (k i : Nat) (hi : i < 67) : (hup a b k).getD i 0 = if i < k then (a.getD i 0 + b.getD i 0) % 18446744073709551616 else a.getD i 0 := by
  simp [hup, hi]
theorem hup_get (a b : List Nat) (k i : Nat) (hi : i < 67) : (hup a b k)[i]'(by rw [hup_len]; exact hi) = if i < k then (a.getD i 0 + b.getD i 0) % 18446744073709551616 else a.getD i 0 := by
  simp [hup]
theorem hup_set (a b : List Nat) (k : Nat) (hk : k < 67) : (hup a b k).set k ((a.getD k 0 + b.getD k 0) % 18446744073709551616) = hup a b (k + 1) := by
  apply List.ext_getElem
  · simp [hup]
  · intro i h1 h2
    have hi : i < 67 := by simpa [hup] using h2
    rw [List.getElem_set, hup_get a b (k + 1) i hi]
    split
    · rename_i e; subst e; simp
    · rename_i e
      rw [hup_get a b k i hi]
      have : i < k ↔ i < k + 1 := by omega
      simp only [this]
theorem hup_lt (a b : List Nat) (k : Nat) (ha : ∀ x ∈ a, x < 18446744073709551616) : ∀ x ∈ hup a b k, x < 18446744073709551616 := by
  intro x hx
  simp only [hup, List.mem_map, List.mem_range] at hx
  obtain ⟨i, hi, rfl⟩ := hx
  split
  · exact Nat.mod_lt _ (by decide)
  · by_cases h : i < a.length
    · have := ha _ (List.getElem_mem h)
      simpa [List.getD, h] using this
    · simp [List.getD, h]
theorem getD_lt (a : List Nat) (i : Nat) (ha : ∀ x ∈ a, x < 18446744073709551616) : a.getD i 0 < 18446744073709551616 := by
  by_cases h : i < a.length
  · have := ha _ (List.getElem_mem h)
    simpa [List.getD, h] using this
  · simp [List.getD, h]
theorem hjoin_lt (a b : List Nat) (ha : ∀ x ∈ a, x < 18446744073709551616) (hb : ∀ x ∈ b, x < 18446744073709551616) : ∀ x ∈ hjoin a b, x < 18446744073709551616 := by
  intro x hx
  rcases List.mem_or_eq_of_mem_set hx with h | h
  · exact hup_lt a b 66 ha x h
  · rw [h]
    exact Nat.max_lt.2 ⟨getD_lt a 66 ha, getD_lt b 66 hb⟩
theorem joinN_lt (f : Nat → List Nat) : ∀ n, (∀ j, j < n → ∀ x ∈ f j, x < 18446744073709551616) → ∀ x ∈ joinN f n, x < 18446744073709551616
  | 0, _ => by intro x hx; simp [joinN, hzero] at hx; omega
  | n + 1, h => hjoin_lt _ _ (joinN_lt f n (fun j hj => h j (by omega))) (h n (by omega))

/-- A slice of histograms in memory. -/
structure HisL (b off n : Nat) (f : Nat → List Nat) (w : World) : Prop where
  rng : ∀ j, j < n → w.rangeAt b (off + j * 67) (uw (f j)).toList
  len : ∀ j, j < n → (f j).length = 67
  lt : ∀ j, j < n → ∀ x ∈ f j, x < 18446744073709551616
  old : 0 < n → b < w.heap.size

theorem HisL.sm {F : Nat → Prop} {b off n : Nat} {f : Nat → List Nat} {w w' : World} (h : HisL b off n f w) (k : Sm F w w') (hF : ¬ F b) : HisL b off n f w' :=
  { h with
    rng := fun j hj i v hv => (k.cell (h.old (by omega)) hF).trans (h.rng j hj i v hv)
    old := fun h0 => Nat.lt_of_lt_of_le (h.old h0) k.size }

theorem size_h67 : (Try.prog.info? 26).map (·.size) = some 67 := by kernel_rfl
theorem wpList_load_h67 {ops : Array Oper} {rest : List Oper} {o : Oper} {a : Act} {w : World} {Q : Exit → Act → World → Prop} (hgd : o.guard = none) (x : Operand) (ho : o.op = .load 26 x)
    (b off : Nat) (hx : a.eval x = .pointer (some ⟨b, off, none⟩)) (m : List Nat) (hlen : m.length = 67) (hr : w.rangeAt b off (uw m).toList) (h : wpList Try.prog ops Q rest (a.put o.dst (.agg (uw m))) w) : wpList Try.prog ops Q (o :: rest) a w := by
  refine wpList_load_mid hgd 26 x ho b off hx (uw m).toList _ hr Try.underlying26 rfl (by rw [Array.length_toList, uw_size, hlen, size_h67]) ?_
  exact h

theorem results_h67 {fn : Func} {p : Tmp} (h : fn.results = #[.cell p 26]) (tmps : Array Value) (w : World) (b T : Nat) (m : List Nat) (hlen : m.length = 67) (hp : tmps.getD p undef = .pointer (some ⟨b, 0, none⟩)) (hr : Row w b (uw m) T) :
    (results fn tmps).run Try.prog w = .ok (.agg (uw m)) w :=
  results_cell_row h tmps w b T (uw m) (0, 0) _ hp hr Try.underlying26 rfl (by rw [uw_size, hlen, size_h67])
theorem sm_setRow {F : Nat → Prop} {a w : World} (h : Sm F a w) (g : Nat) (c : Array Value) (hg : a.heap.size ≤ g) : Sm F a (w.setRow g c) :=
  ⟨h.os, h.tape, h.output, by have := h.size; simpa [World.setRow] using this, fun k hk hf => (setRow_other w g k c (by omega)).trans (h.block k hk hf)⟩
theorem uw_isD (m : List Nat) (i : Nat) (h : i < m.length) : (uw m)[i]? = some (.int .u64 ((m.getD i 0 : Nat) : Int)) := by
  rw [uw_get m i h]; simp [List.getD, h]
theorem hjoin_of (a b : List Nat) : ((hup a b 65).set 65 ((a.getD 65 0 + b.getD 65 0) % 18446744073709551616)).set 66 (max (a.getD 66 0) (b.getD 66 0)) = hjoin a b := by
  rw [hup_set a b 65 (by decide)]; rfl

set_option maxRecDepth 100000 in
set_option maxHeartbeats 1600000 in
theorem tjoin_c (a : Option Addr) (b off n c : Nat) (f : Nat → List Nat) (ha : 0 < n → a = some ⟨b, off, none⟩) (hn : n ≤ 9223372036854775807) (w : World) (h : HisL b off n f w) :
    Calls Try.prog 10 #[.slice a n c] w fun e w' => e = .returned (.agg (uw (joinN f n))) ∧ Sm (fun _ => False) w w' := by
  go_enter Try.func10, Try.ntmps10
  go_wp2
  have q1 : Row ((w.alloc (.cells Try.zeroCells26 26)).alloc (.cells Try.zeroCells26 26)) w.heap.size (uw hzero) 26 := by
    rw [zero_ah]; exact (Row.new w _ _).alloc _
  have q2 : Row ((w.alloc (.cells Try.zeroCells26 26)).alloc (.cells Try.zeroCells26 26)) (w.heap.size + 1) (uw hzero) 26 := by
    rw [zero_ah]
    simpa [hzero] using Row.new (w.alloc (.cells (uw (List.replicate 67 0)) 26)) (uw (List.replicate 67 0)) 26
  have q3 : Sm (fun _ => False) w ((w.alloc (.cells Try.zeroCells26 26)).alloc (.cells Try.zeroCells26 26)) := ((Sm.refl _ _).alloc _).alloc _
  obtain ⟨R, hR⟩ : ∃ R, R = w.heap.size := ⟨_, rfl⟩
  obtain ⟨w1, hw1⟩ : ∃ w1, w1 = ((w.alloc (.cells Try.zeroCells26 26)).alloc (.cells Try.zeroCells26 26)) := ⟨_, rfl⟩
  rw [← hw1] at q1 q2 q3
  rw [← hw1]
  simp only [← hR] at q1 q2 q3 ⊢
  have Q1 := Lib.hid q1
  have Q2 := Lib.hid q2
  have Q3 := Lib.hid q3
  have HR := Lib.hid hR
  have HH := Lib.hid h
  have HA := Lib.hid ha
  clear q1 q2 q3 hw1 hR h ha
  go_loopw [10] (fun s10 wr => ∃ i : Nat, i ≤ n ∧ s10 = .int .i64 i ∧ Hid (Row wr (R + 1) (uw (joinN f i)) 26) ∧ Hid (Row wr R (uw hzero) 26) ∧ Hid (Sm (fun _ => False) w wr)) (fun s10 _ => n - (intOf s10).toNat)
  case atStart => exact ⟨0, by omega, rfl, Q2, Q1, Q3⟩
  case round =>
    obtain ⟨i, hi, rfl, hO, hZ, hS⟩ := hrel
    by_cases hlt : i < n
    · have j1 : (i : Int) < (n : Int) := by omega
      have hp : wrap64 ((i : Int) + 1) = ((i + 1 : Nat) : Int) := by unfold wrap64; omega
      have HP := Lib.hid hp
      clear hp
      obtain ⟨A, hA⟩ : ∃ A, A = joinN f i := ⟨_, rfl⟩
      obtain ⟨B, hB⟩ : ∃ B, B = f i := ⟨_, rfl⟩
      have hl := HH.out.sm hS.out (fun h => h)
      have hBl : B.length = 67 := by rw [hB]; exact hl.len i hlt
      have hBm : ∀ x ∈ B, x < 18446744073709551616 := by rw [hB]; exact hl.lt i hlt
      have hAm : ∀ x ∈ A, x < 18446744073709551616 := by rw [hA]; exact joinN_lt f i (fun j hj => HH.out.lt j (by omega))
      have hAl : A.length = 67 := by rw [hA]; exact joinN_len f i
      have hrng := hl.rng i hlt
      rw [← hB] at hrng
      rw [← hA] at hO
      have hnext : joinN f (i + 1) = hjoin A B := by rw [hA, hB]; rfl
      obtain rfl := HA.out (by omega)
      have HRG := Lib.hid hrng
      have HAm := Lib.hid hAm
      have HBm := Lib.hid hBm
      have HN := Lib.hid hnext
      clear hl hA hB hrng hnext hAm hBm
      go_wp2_with (first
        | refine wpList_load_h67 rfl (.tmp 12) rfl b (off + i * 67) (by simp [Act.eval, Act.put]) B hBl HRG.out ?_
        | refine wpList_store_new67 rfl (.tmp 5) (.tmp 13) rfl (by simp [Act.eval, Act.put]) B (by simp [Act.eval, Act.put]) hBl ?_
        | refine wpList_load_u65 rfl (.tmp 14) rfl wr.heap.size _ (by simp [Act.eval, Act.put]) B hBl (Row.new wr (uw B) 26) ?_)
      have r0 := hO.out.lt
      have r1 := Row.new wr (uw B) 26
      have r2 := hO.out.alloc (.cells (uw B) 26)
      have r3 := hZ.out.alloc (.cells (uw B) 26)
      have r4 := hS.out.alloc (.cells (uw B) 26)
      obtain ⟨N, hN⟩ : ∃ N, N = wr.heap.size := ⟨_, rfl⟩
      obtain ⟨w2, hw2⟩ : ∃ w2, w2 = wr.alloc (.cells (uw B) 26) := ⟨_, rfl⟩
      rw [← hw2] at r1 r2 r3 r4 ⊢
      simp only [← hN] at r0 r1 r2 r3 r4 ⊢
      have hNR : R + 1 < N := r0
      have R1 := Lib.hid r1
      have R2 := Lib.hid r2
      have R3 := Lib.hid r3
      have R4 := Lib.hid r4
      clear r0 r1 r2 r3 r4 hw2 hN hO hZ hS HRG
      go_loopw [16] (fun s16 w3 => ∃ k : Nat, k ≤ 65 ∧ s16 = .int .i64 k ∧ Hid (Row w3 (R + 1) (uw (hup A B k)) 26) ∧ Hid (Row w3 R (uw hzero) 26) ∧ Hid (Row w3 N (uw B) 26) ∧ Hid (Sm (fun _ => False) w w3)) (fun s16 _ => 65 - (intOf s16).toNat)
      case atStart => exact ⟨0, by omega, rfl, by rw [hup_zero A B hAl]; exact R2, R3, R1, R4⟩
      case round =>
        obtain ⟨k, hk, rfl, hO, hZ, hN, hS⟩ := hrel
        by_cases hk65 : k < 65
        · have j2 : (k : Int) < 65 := by omega
          have hp : wrap64 ((k : Int) + 1) = ((k + 1 : Nat) : Int) := by unfold wrap64; omega
          have HP2 := Lib.hid hp
          clear hp
          obtain ⟨x, hx⟩ : ∃ x, x = A.getD k 0 := ⟨_, rfl⟩
          obtain ⟨y, hy⟩ : ∃ y, y = B.getD k 0 := ⟨_, rfl⟩
          obtain ⟨s, hs⟩ : ∃ s, s = (x + y) % 18446744073709551616 := ⟨_, rfl⟩
          have hadd : IntKind.u64.wrap ((x : Int) + (y : Int)) = (s : Int) := by rw [IntKind.wrap_u64, hs]; omega
          have hix := index_u65 wr (B.take 65) k y hk65 (by rw [hy, uw_isD _ k (by simp; omega)]; simp [List.getD, List.getElem?_take, hk65])
          have hc : wr.cell? ⟨R + 1, k, none⟩ = some (.int .u64 (x : Int)) := by
            rw [hO.out.cell k, uw_isD _ k (by rw [hup_len]; omega), hup_getD A B k k (by omega), if_neg (by omega), hx]
          have hfz : wr.frozen? ⟨R + 1, k, none⟩ = false := hO.out.free k
          have n1 : Hid (Row (wr.setCell ⟨R + 1, k, none⟩ (.int .u64 (s : Int))) (R + 1) (uw (hup A B (k + 1))) 26) := by
            apply Lib.hid
            rw [← hup_set A B k (by omega), ← hx, ← hy, ← hs, ← uw_set]
            exact hO.out.set _ _
          have n2 : Hid (Row (wr.setCell ⟨R + 1, k, none⟩ (.int .u64 (s : Int))) R (uw hzero) 26) := Lib.hid (hZ.out.set_ne (by simp) _)
          have n3 : Hid (Row (wr.setCell ⟨R + 1, k, none⟩ (.int .u64 (s : Int))) N (uw B) 26) := Lib.hid (hN.out.set_ne (by show R + 1 ≠ N; omega) _)
          have n4 : Hid (Sm (fun _ => False) w (wr.setCell ⟨R + 1, k, none⟩ (.int .u64 (s : Int)))) := Lib.hid (hS.out.setNew (by rw [← HR.out]; show R ≤ R + 1; omega) _)
          clear hx hy hs
          go_wp2
          go_roundw
          case rel => exact ⟨k + 1, by omega, by first | rw [HP2.out] | go_num, n1, n2, n3, n4⟩
          case measure => (try rw [HP2.out]); simp only [intOf]; omega
        · have hkk : k = 65 := by omega
          subst hkk
          have j2 : ¬ (65 : Int) < 65 := by omega
          obtain ⟨x, hx⟩ : ∃ x, x = A.getD 65 0 := ⟨_, rfl⟩
          obtain ⟨y, hy⟩ : ∃ y, y = B.getD 65 0 := ⟨_, rfl⟩
          obtain ⟨s, hs⟩ : ∃ s, s = (x + y) % 18446744073709551616 := ⟨_, rfl⟩
          have hadd : IntKind.u64.wrap ((x : Int) + (y : Int)) = (s : Int) := by rw [IntKind.wrap_u64, hs]; omega
          have hc : wr.cell? ⟨R + 1, 65, none⟩ = some (.int .u64 (x : Int)) := by
            rw [hO.out.cell 65, uw_isD _ 65 (by rw [hup_len]; omega), hup_getD A B 65 65 (by omega), if_neg (by omega), hx]
          have hc2 : wr.cell? ⟨N, 65, none⟩ = some (.int .u64 (y : Int)) := by
            rw [hN.out.cell 65, uw_isD _ 65 (by omega), hy]
          have hfz : wr.frozen? ⟨R + 1, 65, none⟩ = false := hO.out.free 65
          obtain ⟨x6, hx6⟩ : ∃ x, x = A.getD 66 0 := ⟨_, rfl⟩
          obtain ⟨y6, hy6⟩ : ∃ y, y = B.getD 66 0 := ⟨_, rfl⟩
          obtain ⟨w4, hw4⟩ : ∃ w4, w4 = wr.setCell ⟨R + 1, 65, none⟩ (.int .u64 (s : Int)) := ⟨_, rfl⟩
          have m1 : Row w4 (R + 1) (uw ((hup A B 65).set 65 s)) 26 := by rw [hw4, ← uw_set]; exact hO.out.set _ _
          have m2 : Row w4 R (uw hzero) 26 := by rw [hw4]; exact hZ.out.set_ne (by simp) _
          have m3 : Row w4 N (uw B) 26 := by rw [hw4]; exact hN.out.set_ne (by show R + 1 ≠ N; omega) _
          have m4 : Sm (fun _ => False) w w4 := by rw [hw4]; exact hS.out.setNew (by rw [← HR.out]; show R ≤ R + 1; omega) _
          have d1 : w4.cell? ⟨R + 1, 66, none⟩ = some (.int .u64 (x6 : Int)) := by
            rw [m1.cell 66, uw_isD _ 66 (by simp [hup_len])]
            have : ((hup A B 65).set 65 s).getD 66 0 = (hup A B 65).getD 66 0 := by simp [List.getD, List.getElem?_set_ne]
            rw [this, hup_getD A B 65 66 (by omega), if_neg (by omega), hx6]
          have d2 : w4.cell? ⟨N, 66, none⟩ = some (.int .u64 (y6 : Int)) := by
            rw [m3.cell 66, uw_isD _ 66 (by omega), hy6]
          have d3 : w4.frozen? ⟨R + 1, 66, none⟩ = false := m1.free 66
          rw [hw4] at d1 d2 d3
          have HS := Lib.hid hs
          have HX := Lib.hid hx
          have HY := Lib.hid hy
          have HX6 := Lib.hid hx6
          have HY6 := Lib.hid hy6
          have M1 := Lib.hid m1
          have M2 := Lib.hid m2
          have M4 := Lib.hid m4
          have HW4 := Lib.hid hw4
          clear hs hx hy hx6 hy6 m1 m2 m3 m4 hw4 hO hZ hN hS
          go_wp2
          have e6 : (max (x6 : Int) (y6 : Int)) = ((max x6 y6 : Nat) : Int) := by omega
          rw [e6, ← HW4.out]
          have n1 : Hid (Row (w4.setCell ⟨R + 1, 66, none⟩ (.int .u64 ((max x6 y6 : Nat) : Int))) (R + 1) (uw (joinN f (i + 1))) 26) := by
            apply Lib.hid
            rw [HN.out, ← hjoin_of, ← HX.out, ← HY.out, ← HS.out, ← HX6.out, ← HY6.out, ← uw_set]
            exact M1.out.set _ _
          have n2 : Hid (Row (w4.setCell ⟨R + 1, 66, none⟩ (.int .u64 ((max x6 y6 : Nat) : Int))) R (uw hzero) 26) := Lib.hid (M2.out.set_ne (by simp) _)
          have n4 : Hid (Sm (fun _ => False) w (w4.setCell ⟨R + 1, 66, none⟩ (.int .u64 ((max x6 y6 : Nat) : Int)))) := Lib.hid (M4.out.setNew (by rw [← HR.out]; show R ≤ R + 1; omega) _)
          go_roundw
          case rel => exact ⟨i + 1, by omega, by first | rw [HP.out] | go_num, n1, n2, n4⟩
          case measure => (try rw [HP.out]); simp only [intOf]; omega
    · have hii : i = n := by omega
      subst hii
      have j1 : ¬ (i : Int) < (i : Int) := by omega
      go_wp2_with (first
        | refine wpList_load_u67 rfl (.tmp 3) rfl (R + 1) _ (by simp [Act.eval, Act.put]) (joinN f i) (joinN_len f i) hO.out ?_
        | refine wpList_store_u67 rfl (.tmp 2) (.tmp 42) rfl R _ (by simp [Act.eval, Act.put]) hzero (joinN f i) (by simp [Act.eval, Act.put]) (by simp [hzero]) (joinN_len f i) hZ.out ?_)
      refine bodyPost_ret (results_h67 rfl _ _ R _ (joinN f i) (joinN_len f i) rfl hZ.out.setRow) rfl ?_
      exact ⟨rfl, sm_setRow hS.out R _ (by rw [← HR.out]; exact Nat.le_refl _)⟩
end Go.Proofs.Ytdedmmjmiakidaa
/- patchbaylaw11.few, walked alone: at most six rows of numbers, each cut. -/
namespace Go.Proofs.Ytdedmmjmiakidaa
open Go.RowKit
set_option linter.unusedVariables false
set_option linter.unusedSimpArgs false

/-- A row of numbers that lies in memory. -/
def GoodRow (most : Nat) (w : World) (u : Value) : Prop :=
  ∃ (a : Option Addr) (l c : Nat), u = .slice a l c ∧ l ≤ most ∧ l ≤ c ∧ ∀ j, j < l → ∃ b o x, a = some ⟨b, o, none⟩ ∧ b < w.heap.size ∧ x < 18446744073709551616 ∧ w.cell? ⟨b, o + j, none⟩ = some (.int .u64 ((x : Nat) : Int))

theorem GoodRow.sm {most : Nat} {w w' : World} {u : Value} (h : GoodRow most w u) (k : Sm (fun _ => False) w w') : GoodRow most w' u := by
  obtain ⟨a, l, c, rfl, h1, h2, h3⟩ := h
  refine ⟨a, l, c, rfl, h1, h2, fun j hj => ?_⟩
  obtain ⟨b, o, x, h4, h5, h6, h7⟩ := h3 j hj
  exact ⟨b, o, x, h4, Nat.lt_of_lt_of_le h5 k.size, h6, (k.cell h5 (fun h => h)).trans h7⟩

theorem GoodRow.cut {m1 most : Nat} {w : World} {a : Option Addr} {l c : Nat} (h : GoodRow m1 w (.slice a l c)) (k : Nat) (hk : k ≤ most) (hl : k ≤ l) : GoodRow most w (.slice a k c) := by
  obtain ⟨a', l', c', e, h1, h2, h3⟩ := h
  simp only [Value.slice.injEq] at e
  obtain ⟨rfl, rfl, rfl⟩ := e
  exact ⟨a, k, c, rfl, hk, by omega, fun j hj => h3 j (by omega)⟩

/-- The rows of an argument. -/
structure RowsArg (b off n : Nat) (V : Nat → Value) (w : World) : Prop where
  hd : ∀ r, r < n → w.cell? ⟨b, off + r, none⟩ = some (V r)
  ok : ∀ r, r < n → ∃ m, GoodRow m w (V r)
  old : 0 < n → b < w.heap.size
theorem RowsArg.sm {b off n : Nat} {V : Nat → Value} {w w' : World} (h : RowsArg b off n V w) (k : Sm (fun _ => False) w w') : RowsArg b off n V w' :=
  ⟨fun r hr => (k.cell (h.old (by omega)) (fun h => h)).trans (h.hd r hr), fun r hr => (h.ok r hr).elim fun m hm => ⟨m, hm.sm k⟩, fun h0 => Nat.lt_of_lt_of_le (h.old h0) k.size⟩

theorem info_row : (Try.prog.info? 38).map (fun i => (i.zero, i.size, i.bytes)) = some (some (.slice none 0 0), 1, 24) := by kernel_rfl

set_option maxRecDepth 100000 in
set_option maxHeartbeats 1600000 in
theorem few_c (a : Option Addr) (b off n c most : Nat) (V : Nat → Value) (ha : 0 < n → a = some ⟨b, off, none⟩) (hn : n ≤ 9223372036854775807) (hm : most ≤ 1000) (h1 : 0 < most) (w : World) (h : RowsArg b off n V w) :
    Calls Try.prog 15 #[.slice a n c, .int .i64 most] w fun e w' =>
      ∃ v xs, e = .returned v ∧ w'.ownsRow w.heap.size 38 1 v xs.length xs ∧ 0 < xs.length ∧ xs.length ≤ 6 ∧ (∀ u ∈ xs, GoodRow most w' u) ∧ Sm (fun _ => False) w w' := by
  obtain ⟨i0, hi, hz0, hz1, hz2⟩ := info_parts info_row
  have Hi := Lib.hid hi
  have Hz0 := Lib.hid hz0
  have Hz1 := Lib.hid hz1
  have Hz2 := Lib.hid hz2
  have HH := Lib.hid h
  have HA := Lib.hid ha
  clear hi hz0 hz1 hz2 h ha
  go_enter Try.func15, Try.ntmps15
  go_wp2
  go_loopw [5, 6] (fun s5 s6 wr => ∃ k : Nat, k ≤ n ∧ k ≤ 6 ∧ s6 = .int .i64 k ∧ (∃ xs : List Value, xs.length = k ∧ Hid (wr.ownsRow w.heap.size 38 1 s5 k xs) ∧ Hid (∀ u ∈ xs, GoodRow most w u)) ∧ Hid (Sm (fun _ => False) w wr)) (fun s5 s6 _ => n - (intOf s6).toNat)
  case atStart => exact ⟨0, by omega, by omega, rfl, ⟨[], rfl, Lib.hid (World.ownsRow_nil _ _ _ _), Lib.hid (by simp)⟩, Lib.hid (Sm.refl _ _)⟩
  case round =>
    obtain ⟨k, hk, hk6, rfl, ⟨xs, hxl, hown, hgood⟩, hS⟩ := hrel
    by_cases hlt : k < n
    · have j1 : (k : Int) < (n : Int) := by omega
      by_cases h6 : k < 6
      · have j6 : (k : Int) < 6 := by omega
        have hp : wrap64 ((k : Int) + 1) = ((k + 1 : Nat) : Int) := by unfold wrap64; omega
        have HP := Lib.hid hp
        clear hp
        have hA1 := HA.out (by omega)
        subst hA1
        have hr := HH.out.sm hS.out
        have hc := hr.hd k hlt
        obtain ⟨m1, hg⟩ := HH.out.ok k hlt
        obtain ⟨ra, rl, rc, hV, hrl, hrc, hrd⟩ := hg
        rw [hV] at hc
        have HV := Lib.hid (show GoodRow m1 w (.slice ra rl rc) from ⟨ra, rl, rc, rfl, hrl, hrc, hrd⟩)
        obtain ⟨a5, c5, hv5⟩ := own_form0 hown.out
        subst hv5
        clear hr hrd hV
        by_cases hbig : (most : Int) < (rl : Int)
        · skip
          go_wp2_with (at_builtin; refine wpList_append_own _ rfl (.tmp 29) (.tmp 31) 34 rfl w.heap.size 38 i0 (.slice none 0 0) 1 24 Try.underlying34 Hi.out Hz0.out Hz1.out Hz2.out rfl (by decide) _ k xs rfl (hown.out.alloc _) ⟨wr.heap.size, 0, none⟩ 1 1 [.slice ra most rc] rfl rfl (new_cells wr [.slice ra most rc] 38) (by simp [Value.oneCell']) (by unfold maxLen; omega) (by omega) (by have := hS.out.size; simp; omega) ?_; intro v' w4 hown4 hgr4 _)
          have n1 : Hid (w4.ownsRow w.heap.size 38 1 v' (k + 1) (xs ++ [.slice ra most rc])) := Lib.hid hown4
          have n2 : Hid (∀ u ∈ xs ++ [.slice ra most rc], GoodRow most w u) := Lib.hid (fun u hu => by
            rcases List.mem_append.1 hu with h | h
            · exact hgood.out u h
            · rw [List.mem_singleton.1 h]
              have hg := HV.out
              exact hg.cut most (Nat.le_refl _) (by omega))
          have n3 : Hid (Sm (fun _ => False) w w4) := Lib.hid (by
            have z := hS.out.size
            exact ⟨hgr4.os.trans hS.out.os, hgr4.tape.trans hS.out.tape, hgr4.output.trans hS.out.output, by have := hgr4.size; simp at this; omega, fun j hj hf => (hgr4.block j (by simp; omega) (fun e => by have := (hown.out.lt j e.symm).1; omega)).trans ((Below.heap_alloc _ _ _ (by omega)).trans (hS.out.block j hj hf))⟩)
          go_wp2
          go_roundw
          case rel => exact ⟨k + 1, by omega, by omega, by first | rw [HP.out] | go_num, ⟨_, by simp [hxl], n1, n2⟩, n3⟩
          case measure => (try rw [HP.out]); simp only [intOf]; omega
        · skip
          go_wp2_with (at_builtin; refine wpList_append_own _ rfl (.tmp 29) (.tmp 31) 34 rfl w.heap.size 38 i0 (.slice none 0 0) 1 24 Try.underlying34 Hi.out Hz0.out Hz1.out Hz2.out rfl (by decide) _ k xs rfl (hown.out.alloc _) ⟨wr.heap.size, 0, none⟩ 1 1 [.slice ra rl rc] rfl rfl (new_cells wr [.slice ra rl rc] 38) (by simp [Value.oneCell']) (by unfold maxLen; omega) (by omega) (by have := hS.out.size; simp; omega) ?_; intro v' w4 hown4 hgr4 _)
          have n1 : Hid (w4.ownsRow w.heap.size 38 1 v' (k + 1) (xs ++ [.slice ra rl rc])) := Lib.hid hown4
          have n2 : Hid (∀ u ∈ xs ++ [.slice ra rl rc], GoodRow most w u) := Lib.hid (fun u hu => by
            rcases List.mem_append.1 hu with h | h
            · exact hgood.out u h
            · rw [List.mem_singleton.1 h]
              have hg := HV.out
              exact hg.cut rl (by omega) (Nat.le_refl _))
          have n3 : Hid (Sm (fun _ => False) w w4) := Lib.hid (by
            have z := hS.out.size
            exact ⟨hgr4.os.trans hS.out.os, hgr4.tape.trans hS.out.tape, hgr4.output.trans hS.out.output, by have := hgr4.size; simp at this; omega, fun j hj hf => (hgr4.block j (by simp; omega) (fun e => by have := (hown.out.lt j e.symm).1; omega)).trans ((Below.heap_alloc _ _ _ (by omega)).trans (hS.out.block j hj hf))⟩)
          go_wp2
          go_roundw
          case rel => exact ⟨k + 1, by omega, by omega, by first | rw [HP.out] | go_num, ⟨_, by simp [hxl], n1, n2⟩, n3⟩
          case measure => (try rw [HP.out]); simp only [intOf]; omega
      · have j6 : ¬ (k : Int) < 6 := by omega
        have hk0 : 0 < k := by omega
        obtain ⟨a5, c5, hv5⟩ := own_form0 hown.out
        subst hv5
        have HO := Lib.hid (show wr.ownsRow w.heap.size 38 1 (.slice a5 k c5) xs.length xs by rw [hxl]; exact hown.out)
        have hkz : ((k : Int) == 0) = false := by rw [beq_eq_false_iff_ne]; omega
        go_wp2
        go_ret
        exact ⟨_, rfl, xs, HO.out, by omega, by omega, fun u hu => (hgood.out u hu).sm hS.out, hS.out⟩
    · have j1 : ¬ (k : Int) < (n : Int) := by omega
      by_cases hk0 : 0 < k
      · skip
        obtain ⟨a5, c5, hv5⟩ := own_form0 hown.out
        subst hv5
        have HO := Lib.hid (show wr.ownsRow w.heap.size 38 1 (.slice a5 k c5) xs.length xs by rw [hxl]; exact hown.out)
        have hkz : ((k : Int) == 0) = false := by rw [beq_eq_false_iff_ne]; omega
        go_wp2
        go_ret
        exact ⟨_, rfl, xs, HO.out, by omega, by omega, fun u hu => (hgood.out u hu).sm hS.out, hS.out⟩
      · obtain rfl : k = 0 := by omega
        obtain rfl : xs = [] := List.eq_nil_of_length_eq_zero hxl
        obtain ⟨a5, c5, hv5⟩ := own_form0 hown.out
        subst hv5
        go_wp2_with (at_builtin; refine wpList_append_own _ rfl (.tmp 36) (.tmp 38) 34 rfl w.heap.size 38 i0 (.slice none 0 0) 1 24 Try.underlying34 Hi.out Hz0.out Hz1.out Hz2.out rfl (by decide) _ 0 [] rfl ((hown.out.alloc _).alloc _) ⟨wr.heap.size + 1, 0, none⟩ 1 1 [.slice (some ⟨wr.heap.size, 0, none⟩) 1 1] rfl rfl (by have := new_cells (wr.alloc (.cells #[.int .u64 1] 23)) [.slice (some ⟨wr.heap.size, 0, none⟩) 1 1] 38; simpa using this) (by simp [Value.oneCell']) (by unfold maxLen; omega) (by omega) (by have := hS.out.size; simp; omega) ?_; intro v' w4 hown4 hgr4 _)
        have z := hS.out.size
        have e1 : Row w4 wr.heap.size #[.int .u64 1] 23 := by
          have r := ((Row.new wr #[.int .u64 1] 23).alloc (.cells #[.slice (some ⟨wr.heap.size, 0, none⟩) 1 1] 38 (0, 0)))
          exact r.grown hgr4 (fun e => by have := (hown.out.lt _ e).2; omega)
        have g1 : GoodRow most w4 (.slice (some ⟨wr.heap.size, 0, none⟩) 1 1) := by
          refine ⟨_, 1, 1, rfl, by omega, by omega, fun j hj => ⟨wr.heap.size, 0, 1, rfl, e1.lt, by omega, ?_⟩⟩
          obtain rfl : j = 0 := by omega
          exact e1.cell 0
        have n3 : Sm (fun _ => False) w w4 :=
          ⟨hgr4.os.trans hS.out.os, hgr4.tape.trans hS.out.tape, hgr4.output.trans hS.out.output, by have := hgr4.size; simp at this; omega, fun j hj hf => (hgr4.block j (by simp; omega) (fun e => by have := (hown.out.lt j e.symm).1; omega)).trans ((Below.heap_alloc _ _ _ (by simp; omega)).trans ((Below.heap_alloc _ _ _ (by omega)).trans (hS.out.block j hj hf)))⟩
        go_wp2
        go_ret
        exact ⟨_, rfl, [.slice (some ⟨wr.heap.size, 0, none⟩) 1 1], hown4, by simp, by simp, by simpa using g1, n3⟩
end Go.Proofs.Ytdedmmjmiakidaa
/- patchbayref11.Below, walked alone. -/
namespace Go.Proofs.Ytdedmmjmiakidaa
open Go.RowKit
set_option linter.unusedVariables false
set_option linter.unusedSimpArgs false

set_option maxRecDepth 100000 in
theorem rbelow_bad (m : List Nat) (hlen : m.length = 67) (part ofN : Nat) (hb : badArgs part ofN) (w : World) :
    Calls Try.prog 13 #[.agg (uw m), .int .u64 part, .int .u64 ofN] w fun e w' => e = .returned (.tuple #[.int .u64 0, .int .i64 2]) ∧ Sm (fun _ => False) w w' := by
  by_cases h0 : ofN = 0
  · subst h0
    go_enter Try.func13, Try.ntmps13
    go_wp2
    go_ret2
    exact ⟨rfl, (Sm.refl _ _).alloc _⟩
  · by_cases h1 : 1048576 < ofN
    · have i1 : (1048576 : Int) < (ofN : Int) := by omega
      have i0 : ((ofN : Int) == 0) = false := by rw [beq_eq_false_iff_ne]; omega
      go_enter Try.func13, Try.ntmps13
      go_wp2
      go_ret2
      exact ⟨rfl, (Sm.refl _ _).alloc _⟩
    · have h2 : ofN < part := by rcases hb with h | h | h <;> first | omega | exact h
      have i1 : ¬ (1048576 : Int) < (ofN : Int) := by omega
      have i2 : (ofN : Int) < (part : Int) := by omega
      have i0 : ((ofN : Int) == 0) = false := by rw [beq_eq_false_iff_ne]; omega
      go_enter Try.func13, Try.ntmps13
      go_wp2
      go_ret2
      exact ⟨rfl, (Sm.refl _ _).alloc _⟩

theorem need_up (p o : Nat) (ho : 0 < o) : (p + o - 1) / o = if p % o = 0 then p / o else p / o + 1 := by
  have h1 := Nat.div_add_mod p o
  have h2 := Nat.mod_lt p ho
  obtain ⟨q, hq⟩ : ∃ q, q = p / o := ⟨_, rfl⟩
  obtain ⟨r, hr⟩ : ∃ r, r = p % o := ⟨_, rfl⟩
  rw [← hq, ← hr] at h1
  rw [← hr] at h2 ⊢
  rw [← hq]
  split
  · rename_i h
    rw [← h1, h, Nat.add_zero, show o * q + o - 1 = (o - 1) + o * q by omega, Nat.add_mul_div_left _ _ ho, Nat.div_eq_of_lt (by omega), Nat.zero_add]
  · rename_i h
    rw [← h1, show o * q + r + o - 1 = (r - 1) + o * (q + 1) by rw [Nat.mul_succ]; omega, Nat.add_mul_div_left _ _ ho, Nat.div_eq_of_lt (by omega), Nat.zero_add]

set_option maxRecDepth 100000 in
set_option maxHeartbeats 1600000 in
theorem rbelow_ok (m : List Nat) (hlen : m.length = 67) (hm : ∀ x ∈ m, x < 18446744073709551616) (part ofN : Nat) (hb : ¬ badArgs part ofN) (w : World) :
    Calls Try.prog 13 #[.agg (uw m), .int .u64 part, .int .u64 ofN] w fun e w' => Sm (fun _ => False) w w' ∧
      ((1099511627776 < upS m 65 ∧ e = .returned (.tuple #[.int .u64 0, .int .i64 4])) ∨
       (upS m 65 ≤ 1099511627776 ∧ ∃ k, k < 65 ∧ needOf m part ofN ≤ upS m (k + 1) ∧ (∀ j, j < k → upS m (j + 1) < needOf m part ofN) ∧ e = .returned (.tuple #[.int .u64 ((2 ^ k - 1 : Nat) : Int), .int .i64 0]))) := by
  have h0 : ofN ≠ 0 := fun h => hb (.inl h)
  have h1 : ¬ 1048576 < ofN := fun h => hb (.inr (.inl h))
  have h2 : ¬ ofN < part := fun h => hb (.inr (.inr h))
  have i1 : ¬ (1048576 : Int) < (ofN : Int) := by omega
  have i2 : ¬ (ofN : Int) < (part : Int) := by omega
  have i0 : ((ofN : Int) == 0) = false := by rw [beq_eq_false_iff_ne]; omega
  have hr0 := Row.new w (uw m) 26
  obtain ⟨w1, hw1⟩ : ∃ w1, w1 = w.alloc (.cells (uw m) 26) := ⟨_, rfl⟩
  have hs1 : Sm (fun _ => False) w w1 := by rw [hw1]; exact (Sm.refl _ _).alloc _
  clear hb
  go_enter Try.func13, Try.ntmps13
  go_wp2
  rw [← hw1]
  rw [← hw1] at hr0
  obtain ⟨Bx, hBx⟩ : ∃ Bx, Bx = w.heap.size := ⟨_, rfl⟩
  rw [← hBx] at hr0
  simp only [← hBx]
  have HR0 := Lib.hid hr0
  have HS1 := Lib.hid hs1
  clear hr0 hs1 hw1 hBx
  go_loop [8, 9] (fun s8 s9 => ∃ k : Nat, k ≤ 65 ∧ s9 = .int .i64 k ∧ s8 = .int .u64 (upS m k : Nat) ∧ upS m k ≤ 1099511627776) (fun s8 s9 => 65 - (intOf s9).toNat)
  case atStart => exact ⟨0, by omega, rfl, by rw [upS_zero]; rfl, by rw [upS_zero]; decide⟩
  case round =>
    obtain ⟨k, hk, rfl, rfl, hS⟩ := hrel
    by_cases hlt : k < 65
    · have j1 : (k : Int) < 65 := by omega
      have hp : wrap64 ((k : Int) + 1) = ((k + 1 : Nat) : Int) := by unfold wrap64; omega
      have HP := Lib.hid hp
      clear hp
      have hkm : k < m.length := by omega
      obtain ⟨x, hx⟩ : ∃ x, x = m[k] := ⟨_, rfl⟩
      have hc : w1.cell? ⟨Bx, k, none⟩ = some (.int .u64 (x : Int)) := by rw [hx]; exact (HR0.out.cell k).trans (uw_get m k hkm)
      have hsucc := upS_succ m k hkm
      rw [← hx] at hsucc
      have hmono := upS_mono m (k + 1) 65 (by omega)
      clear hx
      obtain ⟨S1, hS1⟩ : ∃ S1, S1 = upS m (k + 1) := ⟨_, rfl⟩
      rw [← hS1] at hsucc hmono
      have H1 := Lib.hid hS1
      have HSU := Lib.hid hsucc
      have HM := Lib.hid hmono
      clear hS1 hsucc hmono
      by_cases hbig : (1099511627776 : Int) < (x : Int)
      · go_wp2
        go_ret2
        have := HSU.out
        have := HM.out
        exact ⟨HS1.out, .inl ⟨by omega, rfl⟩⟩
      · have hadd : IntKind.u64.wrap ((upS m k : Nat) + (x : Int)) = (S1 : Int) := by rw [IntKind.wrap_u64, HSU.out]; omega
        have hadd2 : ((upS m k : Nat) : Int) + (x : Int) = (S1 : Int) := by rw [HSU.out]; omega
        by_cases hbig2 : (1099511627776 : Int) < (S1 : Int)
        · go_wp2
          go_ret2
          have := HM.out
          exact ⟨HS1.out, .inl ⟨by omega, rfl⟩⟩
        · go_wp2
          go_round
          case rel => exact ⟨k + 1, by omega, by first | rw [HP.out] | go_num, by rw [H1.out], by rw [← H1.out]; omega⟩
          case measure => (try rw [HP.out]); simp only [intOf]; omega
    · have hkk : k = 65 := by omega
      subst hkk
      have j1 : ¬ (65 : Int) < 65 := by omega
      obtain ⟨p, hp⟩ : ∃ p, p = upS m 65 * part := ⟨_, rfl⟩
      have hp60 : p ≤ 1152921504606846976 := by
        rw [hp]; exact Nat.le_trans (Nat.mul_le_mul hS (show part ≤ 1048576 by omega)) (by decide)
      have hmul0 : ((upS m 65 : Nat) : Int) * (part : Int) = (p : Int) := by rw [hp]; simp
      have hmul : IntKind.u64.wrap ((upS m 65 : Nat) * (part : Int)) = (p : Int) := by
        rw [hmul0, IntKind.wrap_u64]; omega
      obtain ⟨N, hN⟩ : ∃ N, N = needOf m part ofN := ⟨_, rfl⟩
      have hNup : N = if p % ofN = 0 then p / ofN else p / ofN + 1 := by rw [hN, needOf, ← hp, need_up p ofN (by omega)]
      have hNle : N ≤ upS m 65 := by
        rw [hN, needOf]
        have h3 : upS m 65 * part ≤ upS m 65 * ofN := Nat.mul_le_mul_left _ (by omega)
        have h4 : ofN * (upS m 65 + 1) = upS m 65 * ofN + ofN := by rw [Nat.mul_succ, Nat.mul_comm]
        have h5 : upS m 65 * part + ofN - 1 < ofN * (upS m 65 + 1) := by rw [h4]; omega
        exact Nat.lt_succ_iff.1 (Nat.div_lt_of_lt_mul h5)
      have HN := Lib.hid hN
      have HPP := Lib.hid hp
      clear hp hN
      obtain ⟨q, hq⟩ : ∃ q, q = p / ofN := ⟨_, rfl⟩
      have hdv : (p : Int) / (ofN : Int) = (q : Int) := by rw [hq, Int.natCast_ediv]
      have hqN : q ≤ N := by rw [hNup, ← hq]; split <;> omega
      have hqw : IntKind.u64.wrap (q : Int) = (q : Int) := by rw [IntKind.wrap_u64]; omega
      rw [← hq] at hNup
      have HQ := Lib.hid hq
      clear hq
      by_cases hmod : p % ofN = 0
      · have im : ((p : Int) % (ofN : Int) == 0) = true := by rw [← Int.natCast_emod, hmod]; rfl
        rw [if_pos hmod] at hNup
        have HNQ := Lib.hid hNup
        clear hNup
        go_wp2
        rw [← HNQ.out]
        have HSZ := Lib.hid hS
        go_loop [11, 12, 13] (fun s11 s12 s13 => ∃ k : Nat, k ≤ 65 ∧ s13 = .int .i64 k ∧ s12 = .int .u64 (upS m k : Nat) ∧ (k < 65 → s11 = .int .u64 ((2 ^ k - 1 : Nat) : Int)) ∧ ∀ j, j < k → upS m (j + 1) < N) (fun s11 s12 s13 => 65 - (intOf s13).toNat)
        case atStart => exact ⟨0, by omega, rfl, by rw [upS_zero]; rfl, fun _ => rfl, fun j h => absurd h (by omega)⟩
        case round =>
          obtain ⟨k, hk, rfl, rfl, hv, hJ⟩ := hrel
          have HJ := Lib.hid hJ
          clear hJ
          by_cases hlt : k < 65
          · obtain rfl := hv hlt
            have j1 : (k : Int) < 65 := by omega
            have hp : wrap64 ((k : Int) + 1) = ((k + 1 : Nat) : Int) := by unfold wrap64; omega
            have HP := Lib.hid hp
            clear hp hv
            have hkm : k < m.length := by omega
            obtain ⟨x, hx⟩ : ∃ x, x = m[k] := ⟨_, rfl⟩
            have hc : w1.cell? ⟨Bx, k, none⟩ = some (.int .u64 (x : Int)) := by rw [hx]; exact (HR0.out.cell k).trans (uw_get m k hkm)
            have hsucc := upS_succ m k hkm
            rw [← hx] at hsucc
            have hmono := upS_mono m (k + 1) 65 (by omega)
            clear hx
            obtain ⟨S1, hS1⟩ : ∃ S1, S1 = upS m (k + 1) := ⟨_, rfl⟩
            rw [← hS1] at hsucc hmono
            have hadd : IntKind.u64.wrap ((upS m k : Nat) + (x : Int)) = (S1 : Int) := by rw [IntKind.wrap_u64, hsucc]; omega
            have hadd' : ((upS m k : Nat) : Int) + (x : Int) = (S1 : Int) := by rw [hsucc]; omega
            obtain ⟨V, hV⟩ : ∃ V : Nat, V = 2 ^ k - 1 := ⟨_, rfl⟩
            rw [← hV]
            have hVW : k + 1 < 65 → IntKind.u64.wrap (IntKind.u64.wrap (2 * (V : Int)) + 1) = ((2 ^ (k + 1) - 1 : Nat) : Int) := by
              intro h
              have h64 : 2 ^ (k + 1) ≤ 2 ^ 64 := Nat.pow_le_pow_right (by decide) (by omega)
              rw [show (2 : Nat) ^ 64 = 18446744073709551616 from rfl] at h64
              have hp2 : 0 < 2 ^ k := Nat.pow_pos (by decide)
              have e2 : 2 ^ (k + 1) = 2 * 2 ^ k := by rw [Nat.pow_succ, Nat.mul_comm]
              simp only [IntKind.wrap_u64]
              omega
            have H1 := Lib.hid hS1
            have HV := Lib.hid hV
            have HVW := Lib.hid hVW
            clear hS1 hsucc hV hVW
            by_cases hge : (N : Int) ≤ (S1 : Int)
            · go_wp2
              go_ret2
              refine ⟨HS1.out, .inr ?_⟩
              rw [H1.out, HN.out] at hge
              first
                | exact ⟨HSZ.out, k, hlt, by omega, fun j hj => by rw [← HN.out]; exact HJ.out j hj, by rw [HV.out]; rfl⟩
                | exact ⟨k, hlt, by omega, fun j hj => by rw [← HN.out]; exact HJ.out j hj, by rw [HV.out]; rfl⟩
            · go_wp2
              go_round
              case rel => exact ⟨k + 1, by omega, by first | rw [HP.out] | go_num, by rw [H1.out], fun h => by rw [HVW.out h], fun j hj => by
                rcases Nat.lt_or_ge j k with h | h
                · exact HJ.out j h
                · obtain rfl : j = k := by omega
                  rw [← H1.out]; omega⟩
              case measure => (try rw [HP.out]); simp only [intOf]; omega
          · have hkk : k = 65 := by omega
            subst hkk
            have := HJ.out 64 (by omega)
            simp only [Nat.reduceAdd] at this
            omega
      · have im : ((p : Int) % (ofN : Int) == 0) = false := by rw [← Int.natCast_emod, beq_eq_false_iff_ne]; omega
        rw [if_neg hmod] at hNup
        have hq1 : IntKind.u64.wrap ((q : Int) + 1) = (N : Int) := by rw [IntKind.wrap_u64, hNup]; omega
        clear hNup
        go_wp2
        have HSZ := Lib.hid hS
        go_loop [11, 12, 13] (fun s11 s12 s13 => ∃ k : Nat, k ≤ 65 ∧ s13 = .int .i64 k ∧ s12 = .int .u64 (upS m k : Nat) ∧ (k < 65 → s11 = .int .u64 ((2 ^ k - 1 : Nat) : Int)) ∧ ∀ j, j < k → upS m (j + 1) < N) (fun s11 s12 s13 => 65 - (intOf s13).toNat)
        case atStart => exact ⟨0, by omega, rfl, by rw [upS_zero]; rfl, fun _ => rfl, fun j h => absurd h (by omega)⟩
        case round =>
          obtain ⟨k, hk, rfl, rfl, hv, hJ⟩ := hrel
          have HJ := Lib.hid hJ
          clear hJ
          by_cases hlt : k < 65
          · obtain rfl := hv hlt
            have j1 : (k : Int) < 65 := by omega
            have hp : wrap64 ((k : Int) + 1) = ((k + 1 : Nat) : Int) := by unfold wrap64; omega
            have HP := Lib.hid hp
            clear hp hv
            have hkm : k < m.length := by omega
            obtain ⟨x, hx⟩ : ∃ x, x = m[k] := ⟨_, rfl⟩
            have hc : w1.cell? ⟨Bx, k, none⟩ = some (.int .u64 (x : Int)) := by rw [hx]; exact (HR0.out.cell k).trans (uw_get m k hkm)
            have hsucc := upS_succ m k hkm
            rw [← hx] at hsucc
            have hmono := upS_mono m (k + 1) 65 (by omega)
            clear hx
            obtain ⟨S1, hS1⟩ : ∃ S1, S1 = upS m (k + 1) := ⟨_, rfl⟩
            rw [← hS1] at hsucc hmono
            have hadd : IntKind.u64.wrap ((upS m k : Nat) + (x : Int)) = (S1 : Int) := by rw [IntKind.wrap_u64, hsucc]; omega
            have hadd' : ((upS m k : Nat) : Int) + (x : Int) = (S1 : Int) := by rw [hsucc]; omega
            obtain ⟨V, hV⟩ : ∃ V : Nat, V = 2 ^ k - 1 := ⟨_, rfl⟩
            rw [← hV]
            have hVW : k + 1 < 65 → IntKind.u64.wrap (IntKind.u64.wrap (2 * (V : Int)) + 1) = ((2 ^ (k + 1) - 1 : Nat) : Int) := by
              intro h
              have h64 : 2 ^ (k + 1) ≤ 2 ^ 64 := Nat.pow_le_pow_right (by decide) (by omega)
              rw [show (2 : Nat) ^ 64 = 18446744073709551616 from rfl] at h64
              have hp2 : 0 < 2 ^ k := Nat.pow_pos (by decide)
              have e2 : 2 ^ (k + 1) = 2 * 2 ^ k := by rw [Nat.pow_succ, Nat.mul_comm]
              simp only [IntKind.wrap_u64]
              omega
            have H1 := Lib.hid hS1
            have HV := Lib.hid hV
            have HVW := Lib.hid hVW
            clear hS1 hsucc hV hVW
            by_cases hge : (N : Int) ≤ (S1 : Int)
            · go_wp2
              go_ret2
              refine ⟨HS1.out, .inr ?_⟩
              rw [H1.out, HN.out] at hge
              first
                | exact ⟨HSZ.out, k, hlt, by omega, fun j hj => by rw [← HN.out]; exact HJ.out j hj, by rw [HV.out]; rfl⟩
                | exact ⟨k, hlt, by omega, fun j hj => by rw [← HN.out]; exact HJ.out j hj, by rw [HV.out]; rfl⟩
            · go_wp2
              go_round
              case rel => exact ⟨k + 1, by omega, by first | rw [HP.out] | go_num, by rw [H1.out], fun h => by rw [HVW.out h], fun j hj => by
                rcases Nat.lt_or_ge j k with h | h
                · exact HJ.out j h
                · obtain rfl : j = k := by omega
                  rw [← H1.out]; omega⟩
              case measure => (try rw [HP.out]); simp only [intOf]; omega
          · have hkk : k = 65 := by omega
            subst hkk
            have := HJ.out 64 (by omega)
            simp only [Nat.reduceAdd] at this
            omega
end Go.Proofs.Ytdedmmjmiakidaa
/- A whole slice of histograms appended to nil. -/
namespace Go.Proofs.Ytdedmmjmiakidaa
open Go.RowKit
set_option linter.unusedVariables false

def flatH (f : Nat → List Nat) : Nat → List Value
  | 0 => []
  | n + 1 => flatH f n ++ (uw (f n)).toList
theorem flatH_len (f : Nat → List Nat) : ∀ n, (∀ j, j < n → (f j).length = 67) → (flatH f n).length = n * 67
  | 0, _ => rfl
  | n + 1, h => by
    rw [flatH, List.length_append, flatH_len f n (fun j hj => h j (by omega)), Array.length_toList, uw_size, h n (by omega)]
    omega
theorem flatH_get (f : Nat → List Nat) : ∀ n, (∀ j, j < n → (f j).length = 67) → ∀ j i, j < n → i < 67 → (flatH f n)[j * 67 + i]? = (uw (f j)).toList[i]?
  | 0, _ => fun j i hj _ => absurd hj (by omega)
  | n + 1, h => fun j i hj hi => by
    have hl := flatH_len f n (fun j hj => h j (by omega))
    rw [flatH]
    rcases Nat.lt_or_ge j n with h1 | h1
    · rw [List.getElem?_append_left (by omega)]
      exact flatH_get f n (fun j hj => h j (by omega)) j i h1 hi
    · obtain rfl : j = n := by omega
      rw [List.getElem?_append_right (by omega), hl]
      congr 1
      omega
theorem flatH_one (f : Nat → List Nat) : ∀ n, ∀ v ∈ flatH f n, v.oneCell' = true
  | 0 => fun v hv => by simp [flatH] at hv
  | n + 1 => fun v hv => by
    rw [flatH, List.mem_append] at hv
    rcases hv with hv | hv
    · exact flatH_one f n v hv
    · exact (Array.all_eq_true_iff_forall_mem.1 (uw_one (f n))) v (by simpa using hv)

theorem info_hist : (Try.prog.info? 26).map (fun i => (i.zero, i.size, i.bytes)) = some (some (.agg (uw hzero)), 67, 536) := by kernel_rfl

theorem add_plain' (b off k : Nat) : (⟨b, off, none⟩ : Addr).add k = ⟨b, off + k, none⟩ := by
  unfold Addr.add
  split <;> simp_all

set_option maxRecDepth 100000 in
theorem wpList_append_hists {w : World} {ops : Array Oper} {rest : List Oper} {o : Oper} {a : Act} {Q : Exit → Act → World → Prop} (hgd : o.guard = none) (s x : Operand)
    (ho : o.op = .call { callee := .builtin .append, args := #[s, x], argTypes := #[22, 22] })
    (hs : a.eval s = .slice none 0 0) (A : Option Addr) (n c : Nat) (hx : a.eval x = .slice A n c) (hnil : A = none → n = 0 ∧ c = 0) (b off : Nat) (f : Nat → List Nat) (ha : 0 < n → A = some ⟨b, off, none⟩) (H : HisL b off n f w) (hreach : n * 536 ≤ 140737488355328)
    (hK : ∀ a2 b2 c2 w', (0 < n → a2 = some ⟨b2, 0, none⟩) → HisL b2 0 n f w' → Sm (fun _ => False) w w' → wpList Try.prog ops Q rest (a.put o.dst (.slice a2 n c2)) w') : wpList Try.prog ops Q (o :: rest) a w := by
  obtain ⟨i0, hi, hz0, hz1, hz2⟩ := info_parts info_hist
  cases A with
  | none =>
    obtain ⟨rfl, rfl⟩ := hnil rfl
    refine wpList_append_own_none hgd s x 22 ho 0 26 i0 67 Try.underlying22 hi _ 0 [] hs (World.ownsRow_nil _ _ _ _) hx ?_
    exact hK none 0 0 w (fun h => absurd h (by decide)) ⟨fun j h => absurd h (by omega), fun j h => absurd h (by omega), fun j h => absurd h (by omega), fun h => absurd h (by decide)⟩ (Sm.refl _ _)
  | some ad =>
    refine wpList_append_own _ hgd s x 22 ho w.heap.size 26 i0 (.agg (uw hzero)) 67 536 Try.underlying22 hi hz0 hz1 hz2 (by simp [Value.cells, uw_size, hzero]) (by decide) _ 0 [] hs (World.ownsRow_nil _ _ _ _) ad n c (flatH f n) hx (flatH_len f n H.len) ?_ (flatH_one f n) (by unfold maxLen; omega) (by omega) (Nat.le_refl _) ?_
    · intro j u hu
      have hj : j < n * 67 := by rw [← flatH_len f n H.len]; exact (List.getElem?_eq_some_iff.1 hu).1
      have hn : 0 < n := by omega
      have e := ha hn
      simp only [Option.some.injEq] at e
      subst e
      have hg := flatH_get f n H.len (j / 67) (j % 67) (by omega) (Nat.mod_lt _ (by decide))
      rw [show j / 67 * 67 + j % 67 = j by omega, hu] at hg
      have := H.rng (j / 67) (by omega) (j % 67) u hg.symm
      rw [add_plain']
      rw [show off + j / 67 * 67 + j % 67 = off + j by omega] at this
      exact this
    · intro v' w' hown hgr _
      rw [Nat.zero_add, List.nil_append] at hown
      have hsm : Sm (fun _ => False) w w' := sm_grown hgr (fun k hk => by cases hk)
      obtain ⟨a2, c2, rfl⟩ := own_form0 hown
      rcases Nat.eq_zero_or_pos n with h0 | h0
      · subst h0
        exact hK a2 0 c2 w' (fun h => absurd h (by decide)) ⟨fun j h => absurd h (by omega), fun j h => absurd h (by omega), fun j h => absurd h (by omega), fun h => absurd h (by decide)⟩ hsm
      · obtain ⟨g, cap, hv⟩ := own_form hown h0
        simp only [Value.slice.injEq] at hv
        obtain ⟨rfl, -, rfl⟩ := hv
        have hc := hown.cells (g := g) rfl
        refine hK _ g c2 w' (fun _ => rfl) ⟨fun j hj i v hv => ?_, H.len, H.lt, fun _ => ?_⟩ hsm
        · have hi : i < 67 := by
            have := (List.getElem?_eq_some_iff.1 hv).1
            simpa [uw, H.len j hj] using this
          have := hc (j * 67 + i) v (by rw [flatH_get f n H.len j i hj hi]; exact hv)
          rw [add_plain'] at this
          rw [show 0 + j * 67 + i = 0 + (j * 67 + i) by omega]
          exact this
        · exact (hown.lt g rfl).2
end Go.Proofs.Ytdedmmjmiakidaa
/- What Below tells, as a relation; both Belows tell it. -/
namespace Go.Proofs.Ytdedmmjmiakidaa
open Go.RowKit
set_option linter.unusedVariables false

def BelowIs (m : List Nat) (part ofN : Nat) (r1 r2 : Nat) : Prop :=
  (badArgs part ofN ∧ r1 = 0 ∧ r2 = 2) ∨ (¬ badArgs part ofN ∧ 1099511627776 < upS m 65 ∧ r1 = 0 ∧ r2 = 4) ∨
    (¬ badArgs part ofN ∧ upS m 65 ≤ 1099511627776 ∧ ∃ k, k < 65 ∧ needOf m part ofN ≤ upS m (k + 1) ∧ (∀ j, j < k → upS m (j + 1) < needOf m part ofN) ∧ r1 = 2 ^ k - 1 ∧ r2 = 0)
theorem BelowIs.uniq {m : List Nat} {p o a b a' b' : Nat} (h : BelowIs m p o a b) (h' : BelowIs m p o a' b') : a = a' ∧ b = b' := by
  rcases h with ⟨h1, rfl, rfl⟩ | ⟨h1, h2, rfl, rfl⟩ | ⟨h1, h2, k, hk, hk1, hk2, rfl, rfl⟩ <;> rcases h' with ⟨g1, rfl, rfl⟩ | ⟨g1, g2, rfl, rfl⟩ | ⟨g1, g2, j, hj, hj1, hj2, rfl, rfl⟩
  · exact ⟨rfl, rfl⟩
  · exact absurd h1 g1
  · exact absurd h1 g1
  · exact absurd g1 h1
  · exact ⟨rfl, rfl⟩
  · omega
  · exact absurd g1 h1
  · omega
  · have : k = j := by
      rcases Nat.lt_trichotomy k j with h | h | h
      · have := hj2 k h; omega
      · exact h
      · have := hk2 j h; omega
    subst this
    exact ⟨rfl, rfl⟩

theorem tbelow_c (m : List Nat) (hlen : m.length = 67) (hm : ∀ x ∈ m, x < 18446744073709551616) (part ofN : Nat) (w : World) :
    Calls Try.prog 12 #[.agg (uw m), .int .u64 part, .int .u64 ofN] w fun e w' => ∃ r1 r2 : Nat, BelowIs m part ofN r1 r2 ∧ e = .returned (.tuple #[.int .u64 (r1 : Int), .int .i64 (r2 : Int)]) ∧ Sm (fun _ => False) w w' := by
  by_cases hb : badArgs part ofN
  · exact (tbelow_bad m hlen part ofN hb w).mono fun e w' ⟨h1, h2⟩ => ⟨0, 2, .inl ⟨hb, rfl, rfl⟩, h1, h2⟩
  · refine (tbelow_ok m hlen hm part ofN hb w).mono fun e w' ⟨h1, h2⟩ => ?_
    rcases h2 with ⟨h2, h3⟩ | ⟨h2, k, h3, h4, h5, h6⟩
    · exact ⟨0, 4, .inr (.inl ⟨hb, h2, rfl, rfl⟩), h3, h1⟩
    · exact ⟨2 ^ k - 1, 0, .inr (.inr ⟨hb, h2, k, h3, h4, h5, rfl, rfl⟩), h6, h1⟩
theorem rbelow_c (m : List Nat) (hlen : m.length = 67) (hm : ∀ x ∈ m, x < 18446744073709551616) (part ofN : Nat) (w : World) :
    Calls Try.prog 13 #[.agg (uw m), .int .u64 part, .int .u64 ofN] w fun e w' => ∃ r1 r2 : Nat, BelowIs m part ofN r1 r2 ∧ e = .returned (.tuple #[.int .u64 (r1 : Int), .int .i64 (r2 : Int)]) ∧ Sm (fun _ => False) w w' := by
  by_cases hb : badArgs part ofN
  · exact (rbelow_bad m hlen part ofN hb w).mono fun e w' ⟨h1, h2⟩ => ⟨0, 2, .inl ⟨hb, rfl, rfl⟩, h1, h2⟩
  · refine (rbelow_ok m hlen hm part ofN hb w).mono fun e w' ⟨h1, h2⟩ => ?_
    rcases h2 with ⟨h2, h3⟩ | ⟨h2, k, h3, h4, h5, h6⟩
    · exact ⟨0, 4, .inr (.inl ⟨hb, h2, rfl, rfl⟩), h3, h1⟩
    · exact ⟨2 ^ k - 1, 0, .inr (.inr ⟨hb, h2, k, h3, h4, h5, rfl, rfl⟩), h6, h1⟩

theorem wp_load_h67 {o : Oper} {a : Act} {w : World} {K : Act → World → Prop} {Q : Exit → Act → World → Prop} (x : Operand) (ho : o.op = .load 26 x)
    (b off : Nat) (hx : a.eval x = .pointer (some ⟨b, off, none⟩)) (m : List Nat) (hlen : m.length = 67) (hr : w.rangeAt b off (uw m).toList) (h : K (a.put o.dst (.agg (uw m))) w) : o.wp Try.prog a w K Q :=
  wp_load_mid 26 x ho b off hx (uw m).toList _ hr Try.underlying26 rfl (by rw [Array.length_toList, uw_size, hlen, size_h67]) h
end Go.Proofs.Ytdedmmjmiakidaa
/- Plain: what a histogram of a list of numbers is; joined histograms. -/
namespace Go.Proofs.Ytdedmmjmiakidaa
set_option linter.unusedVariables false

def hspecAt (l : List Nat) (i : Nat) : Nat :=
  if i < 65 then (l.countP fun x => Lib.bitLen x == i) % 18446744073709551616 else if i = 65 then l.sum % 18446744073709551616 else l.foldr max 0
def hspec (l : List Nat) : List Nat := (List.range 67).map (hspecAt l)
theorem hspec_len (l : List Nat) : (hspec l).length = 67 := by simp [hspec]
theorem hspec_get (l : List Nat) (i : Nat) (h : i < 67) : (hspec l).getD i 0 = hspecAt l i := by simp [hspec, h]
theorem hspec_nil : hspec [] = hzero := by decide

theorem ext67 (a b : List Nat) (ha : a.length = 67) (hb : b.length = 67) (h : ∀ i, i < 67 → a.getD i 0 = b.getD i 0) : a = b := by
  apply List.ext_getElem
  · omega
  · intro i h1 h2
    have := h i (by omega)
    simpa [List.getD, h1, h2] using this

theorem foldr_max_append (a b : List Nat) : (a ++ b).foldr max 0 = max (a.foldr max 0) (b.foldr max 0) := by
  induction a with
  | nil => simp
  | cons x a ih => simp [ih, Nat.max_assoc]

theorem hspecAt_append (a b : List Nat) (i : Nat) : hspecAt (a ++ b) i = if i < 66 then (hspecAt a i + hspecAt b i) % 18446744073709551616 else max (hspecAt a i) (hspecAt b i) := by
  unfold hspecAt
  by_cases h : i < 65
  · rw [if_pos h, if_pos h, if_pos h, if_pos (by omega), List.countP_append]
    omega
  · rw [if_neg h, if_neg h, if_neg h]
    by_cases h5 : i = 65
    · rw [if_pos h5, if_pos h5, if_pos h5, if_pos (by omega), List.sum_append]
      omega
    · rw [if_neg h5, if_neg h5, if_neg h5, if_neg (by omega), foldr_max_append]

theorem hjoin_get (a b : List Nat) (i : Nat) (h : i < 67) : (hjoin a b).getD i 0 = if i < 66 then (a.getD i 0 + b.getD i 0) % 18446744073709551616 else max (a.getD i 0) (b.getD i 0) := by
  unfold hjoin
  by_cases h6 : i < 66
  · have e : ((hup a b 66).set 66 (max (a.getD 66 0) (b.getD 66 0))).getD i 0 = (hup a b 66).getD i 0 := by
      simp [List.getD, List.getElem?_set_ne (show 66 ≠ i by omega)]
    rw [e, hup_getD a b 66 i h, if_pos h6, if_pos h6]
  · obtain rfl : i = 66 := by omega
    simp [List.getD, hup_len]

theorem hjoin_spec (a b : List Nat) : hjoin (hspec a) (hspec b) = hspec (a ++ b) := by
  apply ext67 _ _ (hjoin_len _ _) (hspec_len _)
  intro i h
  rw [hjoin_get _ _ i h, hspec_get _ i h, hspec_get _ i h, hspec_get _ i h, hspecAt_append]
theorem hspec_comm (a b : List Nat) : hspec (a ++ b) = hspec (b ++ a) := by
  apply ext67 _ _ (hspec_len _) (hspec_len _)
  intro i h
  rw [hspec_get _ i h, hspec_get _ i h, hspecAt_append, hspecAt_append]
  split
  · rw [Nat.add_comm]
  · rw [Nat.max_comm]
theorem hjoin_zero (a : List Nat) : hjoin hzero (hspec a) = hspec a := by
  rw [← hspec_nil, hjoin_spec]; rfl

theorem getD_set (m : List Nat) (j x i : Nat) (hi : i < m.length) : (m.set j x).getD i 0 = if j = i then x else m.getD i 0 := by
  by_cases h : j = i
  · subst h
    simp [List.getD, hi]
  · simp [List.getD, h]

theorem come_spec (l : List Nat) (v : Nat) (hv : v < 18446744073709551616) : come (hspec l) v = hspec (l ++ [v]) := by
  have hk : Lib.bitLen v ≤ 64 := bitLen_le 64 v hv (by decide)
  apply ext67 _ _ (by rw [come_len, hspec_len]) (hspec_len _)
  intro i h
  rw [hspec_get _ i h, hspecAt_append]
  have hl := hspec_len l
  have e0 := hspec_get l (Lib.bitLen v) (by omega)
  have e5 := hspec_get l 65 (by omega)
  have e6 := hspec_get l 66 (by omega)
  have ei := hspec_get l i h
  have base : (((hspec l).set (Lib.bitLen v) (((hspec l).getD (Lib.bitLen v) 0 + 1) % 18446744073709551616)).set 65 (((hspec l).getD 65 0 + v) % 18446744073709551616)).getD i 0 = if i < 66 then (hspecAt l i + hspecAt [v] i) % 18446744073709551616 else hspecAt l i := by
    rw [getD_set _ _ _ _ (by simp [hl]; omega), getD_set _ _ _ _ (by omega), e0, e5, ei]
    by_cases h5 : i = 65
    · subst h5
      simp [hspecAt]
    · by_cases h6 : i = 66
      · subst h6
        simp
        omega
      · have hi : i < 65 := by omega
        rw [if_neg (show ¬ 65 = i by omega), if_pos (show i < 66 by omega)]
        by_cases hb : Lib.bitLen v = i
        · rw [if_pos hb, hb]
          simp [hspecAt, hi, hb]
        · rw [if_neg hb]
          simp [hspecAt, hi, hb]
  unfold come
  simp only
  rw [e6]
  have hv6 : hspecAt [v] 66 = v := by simp [hspecAt]
  split
  · rename_i hle
    rw [base]
    by_cases h6 : i < 66
    · rw [if_pos h6, if_pos h6]
    · obtain rfl : i = 66 := by omega
      rw [if_neg h6, if_neg h6, hv6]
      omega
  · rename_i hgt
    rw [getD_set _ _ _ _ (by simp [hl]; omega)]
    by_cases h6 : i < 66
    · rw [if_neg (by omega), base, if_pos h6, if_pos h6]
    · obtain rfl : i = 66 := by omega
      rw [if_pos rfl, if_neg h6, hv6]
      omega

theorem lt_pow_bitLen : ∀ (n v : Nat), v ≤ n → v < 18446744073709551616 → v < 2 ^ Lib.bitLen v
  | 0, v, h, _ => by
    obtain rfl : v = 0 := by omega
    simp [bitLen_zero]
  | n + 1, v, h, hv => by
    by_cases h0 : v = 0
    · subst h0; simp [bitLen_zero]
    · rw [Lib.bitLen_half v h0 hv]
      have := lt_pow_bitLen n (v / 2) (by omega) (by omega)
      rw [Nat.pow_add]
      omega
theorem bitLen_iff (v k : Nat) (hv : v < 18446744073709551616) (hk : k ≤ 64) : Lib.bitLen v ≤ k ↔ v ≤ 2 ^ k - 1 := by
  have hp : 0 < 2 ^ k := Nat.pow_pos (by decide)
  constructor
  · intro h
    have h1 := lt_pow_bitLen v v (Nat.le_refl _) hv
    have h2 : 2 ^ Lib.bitLen v ≤ 2 ^ k := Nat.pow_le_pow_right (by decide) h
    omega
  · intro h
    exact bitLen_le k v (by omega) hk

theorem upS_spec (l : List Nat) (hl : l.length < 1000000) : ∀ k, k ≤ 65 → upS (hspec l) k = l.countP fun x => decide (Lib.bitLen x < k)
  | 0, _ => by simp [upS_zero]
  | k + 1, hk => by
    rw [upS_succ _ _ (by rw [hspec_len]; omega), upS_spec l hl k (by omega)]
    have e : (hspec l)[k]'(by rw [hspec_len]; omega) = l.countP fun x => Lib.bitLen x == k := by
      have h1 := hspec_get l k (by omega)
      have h2 : (hspec l).getD k 0 = (hspec l)[k]'(by rw [hspec_len]; omega) := by simp [List.getD, hspec_len, show k < 67 by omega]
      rw [← h2, h1, hspecAt, if_pos (by omega)]
      have := List.countP_le_length (p := fun x => Lib.bitLen x == k) (l := l)
      omega
    rw [e]
    clear e
    induction l with
    | nil => simp
    | cons x l ih =>
      have ih := ih (by simp at hl; omega)
      simp only [List.countP_cons]
      by_cases h1 : Lib.bitLen x < k
      · have a1 : Lib.bitLen x < k + 1 := by omega
        have a2 : ¬ Lib.bitLen x = k := by omega
        simp [h1, a1, a2]; omega
      · by_cases h2 : Lib.bitLen x = k
        · have a1 : Lib.bitLen x < k + 1 := by omega
          simp [h2]; omega
        · have a1 : ¬ Lib.bitLen x < k + 1 := by omega
          simp [h1, a1, h2]; omega

theorem upS_all (l : List Nat) (hl : l.length < 1000000) (hv : ∀ x ∈ l, x < 18446744073709551616) : upS (hspec l) 65 = l.length := by
  rw [upS_spec l hl 65 (by omega)]
  rw [List.countP_eq_length.2]
  intro x hx
  have := bitLen_le 64 x (hv x hx) (by decide)
  simp; omega

theorem upS_le (l : List Nat) (hl : l.length < 1000000) (hv : ∀ x ∈ l, x < 18446744073709551616) (k : Nat) (hk : k ≤ 64) : upS (hspec l) (k + 1) = l.countP fun x => decide (x ≤ 2 ^ k - 1) := by
  rw [upS_spec l hl (k + 1) (by omega)]
  refine List.countP_congr fun x hx => ?_
  have := bitLen_iff x k (hv x hx) hk
  simp
  omega

theorem joins_law (l : List Nat) (hl : l.length < 1000000) (hv : ∀ x ∈ l, x < 18446744073709551616) (part o : Nat) (h0 : 0 < o) (h1 : o ≤ 1048576) (h2 : part ≤ o) (v r w s : Nat)
    (hb : BelowIs (hspec l) part o v r) (hw : BelowIs (hspec l) o o w s) :
    r = 0 ∧ s = 0 ∧ v ≤ w ∧ l.length * part ≤ (l.countP fun x => decide (x ≤ v)) * o ∧ (v = 0 ∨ (l.countP fun x => decide (x ≤ v / 2)) * o < l.length * part) := by
  have hall := upS_all l hl hv
  have nb : ∀ q, q ≤ o → ¬ badArgs q o := by unfold badArgs; omega
  rcases hb with ⟨hb, _⟩ | ⟨_, hb, _⟩ | ⟨_, _, k, hk, hk1, hk2, rfl, rfl⟩
  · exact absurd hb (nb part h2)
  · omega
  rcases hw with ⟨hw, _⟩ | ⟨_, hw, _⟩ | ⟨_, _, j, hj, hj1, hj2, rfl, rfl⟩
  · exact absurd hw (nb o (Nat.le_refl _))
  · omega
  have hmono : needOf (hspec l) part o ≤ needOf (hspec l) o o := by
    unfold needOf
    apply Nat.div_le_div_right
    have : upS (hspec l) 65 * part ≤ upS (hspec l) 65 * o := Nat.mul_le_mul_left _ h2
    omega
  have hkj : k ≤ j := by
    rcases Nat.lt_or_ge j k with h | h
    · have := hk2 j h; omega
    · exact h
  have hpw : 2 ^ k ≤ 2 ^ j := Nat.pow_le_pow_right (by decide) hkj
  refine ⟨rfl, rfl, by omega, ?_, ?_⟩
  · rw [← upS_le l hl hv k (by omega)]
    unfold needOf at hk1
    rw [hall] at hk1
    have h3 := Nat.lt_of_le_of_lt hk1 (Nat.lt_succ_self _)
    have h4 := (Nat.div_lt_iff_lt_mul h0).1 h3
    rw [Nat.succ_mul] at h4
    omega
  · rcases Nat.eq_zero_or_pos k with hk0 | hk0
    · subst hk0
      exact .inl rfl
    · right
      obtain ⟨i, rfl⟩ : ∃ i, k = i + 1 := ⟨k - 1, by omega⟩
      have e : (2 ^ (i + 1) - 1) / 2 = 2 ^ i - 1 := by
        have : 0 < 2 ^ i := Nat.pow_pos (by decide)
        rw [Nat.pow_succ]; omega
      rw [e, ← upS_le l hl hv i (by omega)]
      have h3 := hk2 i (by omega)
      unfold needOf at h3
      rw [hall] at h3
      have h4 : upS (hspec l) (i + 1) + 1 ≤ (l.length * part + o - 1) / o := h3
      have h5 := (Nat.le_div_iff_mul_le h0).1 h4
      rw [Nat.succ_mul] at h5
      omega
end Go.Proofs.Ytdedmmjmiakidaa
