/- Plain words: TallyBetween's threads: what they keep in memory. No condition. -/
import Derived.Test.YtdedmmjmiakidaaBetwMAA
import Derived.Test.YtdedmmjmiakidaaFwAJ
import Derived.OwnWalk
set_option linter.unusedVariables false
set_option linter.unusedSimpArgs false
/- Plain words: TallyBetween's threads: what they keep in memory. No condition. -/
namespace Go.Proofs.Ytdedmmjmiakidaa
open Go.Conc Go.RowKit
/-- Blocks that a call has for itself. -/
abbrev Priv := Nat → Option Obj
def noPriv : Priv := fun _ => Option.none
open Classical in
/-- One block. -/
noncomputable def onePriv (g : Nat) (o : Obj) : Priv := fun b => if b = g then some o else none
theorem one_at {g : Nat} {o : Obj} : onePriv g o g = some o := by unfold onePriv; rw [if_pos rfl]
theorem one_some {g x : Nat} {o o' : Obj} (h : onePriv g o x = some o') : x = g ∧ o' = o := by
  unfold onePriv at h
  split at h
  · exact ⟨by assumption, (Option.some.inj h).symm⟩
  · cases h
theorem one_ne {g x : Nat} {o : Obj} (h : onePriv g o x ≠ none) : x = g := by
  unfold onePriv at h
  split at h
  · assumption
  · exact absurd rfl h
/-- What they find in memory. -/
structure BwMem (old : Old) (bb eb ob : Nat) (β : BwB) (l : Priv) (u : World) : Prop where
  stat : old.In u
  rb : Row u bb #[.int .u64 (β.begun : Nat)] 23
  re : Row u eb #[.int .u64 (β.ended : Nat)] 23
  ro : Row u ob #[.bool β.ok] 4
  pv : ∀ x o, l x = some o → u.heap[x]? = some o ∧ RealO o
  off : old.ob bb = none ∧ old.ob eb = none ∧ old.ob ob = none
  offp : ∀ x, l x ≠ none → old.ob x = none ∧ x ≠ bb ∧ x ≠ eb ∧ x ≠ ob
  ne : bb ≠ eb ∧ bb ≠ ob ∧ eb ≠ ob
  lt : β.begun < 18446744073709551616 ∧ β.ended < 18446744073709551616
def bwFoot (old : Old) (bb eb ob : Nat) (l : Priv) (x : Nat) : Prop := old.ob x ≠ none ∨ x = bb ∨ x = eb ∨ x = ob ∨ l x ≠ none
theorem row_real {u : World} {b : Nat} {c : Array Value} {T : TypeId} (h : Row u b c T) (hc : c.size ≠ 0) : ∃ o, u.heap[b]? = some o ∧ (∀ cap buf cl x r t, o ≠ .chan cap buf cl x r t) ∧ ∀ T, o ≠ .cells #[] T (0, 0) :=
  ⟨_, h, fun _ _ _ _ _ _ e => (by cases e), fun T e => by
    have := congrArg (fun o => match o with | Obj.cells c _ _ => c.size | _ => 0) e
    exact hc this⟩
/-- The threads: of N shards, m lists; the one that asks has a buffer of its own. -/
def bwK (B T A H N m : Nat) (rows : List (List Nat)) (old : Old) (bb eb ob : Nat) : Client (talJob T A H N) where
  B := BwB
  C := BwC
  Pg := Priv
  base := B
  tid := fun c => c.1
  fin := bwFin rows N m
  tids := fun c r σ p h => by
    have h : (bwNext rows N m c.1 (c.2.1 + 1) (bwUpd rows c r σ.2)).2 = some p := h
    unfold bwNext at h
    split at h
    · split at h
      · obtain rfl := Option.some.inj h; rfl
      · cases h
    · split at h
      · obtain rfl := Option.some.inj h; rfl
      · cases h
  footB := fun a => bwFoot old bb eb ob (a.2 m)
  RepB := fun a => BwMem old bb eb ob a.1 (a.2 m)
  frameB := fun a u u' h hr => { hr with stat := fun b o hb => (h b (.inl (by rw [hb]; simp))).trans (hr.stat b o hb), rb := hr.rb.of_heap (h _ (.inr (.inl rfl))), re := hr.re.of_heap (h _ (.inr (.inr (.inl rfl)))), ro := hr.ro.of_heap (h _ (.inr (.inr (.inr (.inl rfl))))), pv := fun x o hx => ⟨(h x (.inr (.inr (.inr (.inr (by rw [hx]; simp)))))).trans (hr.pv x o hx).1, (hr.pv x o hx).2⟩ }
  realB := fun a u b hr hb => by
    rcases hb with hb | hb | hb | hb | hb
    · obtain ⟨o, ho⟩ := Option.ne_none_iff_exists'.1 hb
      exact ⟨o, hr.stat b o ho, (old.real b o ho).1, (old.real b o ho).2⟩
    · subst hb; exact row_real hr.rb (by simp)
    · subst hb; exact row_real hr.re (by simp)
    · subst hb; exact row_real hr.ro (by simp)
    · obtain ⟨o, ho⟩ := Option.ne_none_iff_exists'.1 hb
      obtain ⟨h1, h2⟩ := hr.pv b o ho
      exact ⟨o, h1, h2.1, h2.2⟩
section
variable {B T A H N m : Nat} {rows : List (List Nat)} {old : Old} {bb eb ob : Nat} {a : TSt} {β β' : BwB} {γ : Nat → Priv} {u u' : World} {ti : Nat}
theorem row_lt' {u : World} {b : Nat} {c : Array Value} {T : TypeId} (h : Row u b c T) : b < u.heap.size := h.lt
/-- A thread changes what they share. -/
theorem bw_mv (hA : TRep T A H N a u) (hB : BwMem old bb eb ob β (γ m) u) (hd : ∀ x, (x = T ∨ x = A ∨ x = H) → ¬ bwFoot old bb eb ob (γ m) x) (hs : Sm (fun x => x = bb ∨ x = eb ∨ x = ob) u u')
    (h1 : Row u' bb #[.int .u64 (β'.begun : Nat)] 23) (h2 : Row u' eb #[.int .u64 (β'.ended : Nat)] 23) (h3 : Row u' ob #[.bool β'.ok] 4) (hl : β'.begun < 18446744073709551616 ∧ β'.ended < 18446744073709551616) :
    Mv (bwK B T A H N m rows old bb eb ob) ti a a (β, γ) (β', γ) u u' := by
  have lt : ∀ {b : Nat} {o : Obj}, u.heap[b]? = some o → b < u.heap.size := fun h => (Array.getElem?_eq_some_iff.1 h).1
  have keep : ∀ x o, u.heap[x]? = some o → x ≠ bb → x ≠ eb → x ≠ ob → u'.heap[x]? = some o := fun x o hx q1 q2 q3 => by
    rw [hs.block x (lt hx) fun h => by rcases h with h | h | h <;> contradiction]; exact hx
  refine ⟨(talJob T A H N).frame a u u' (fun x hx => ?_) hA, ⟨fun x o hx => ?_, h1, h2, h3, fun x o hx => ?_, hB.off, hB.offp, hB.ne, hl⟩, hd, hs.mono fun x h => .inr (.inr (by rcases h with h | h | h; exact .inl h; exact .inr (.inl h); exact .inr (.inr (.inl h)))), fun x h => .inl h, fun _ _ => rfl⟩
  · obtain ⟨o, ho, _⟩ := (talJob T A H N).real a u x hA hx
    rw [ho]
    have hx : x = T ∨ x = A ∨ x = H := hx
    have hn := hd x hx
    exact keep x o ho (fun e => hn (.inr (.inl e))) (fun e => hn (.inr (.inr (.inl e)))) (fun e => hn (.inr (.inr (.inr (.inl e)))))
  · have hx : old.ob x = some o := hx
    refine keep x o (hB.stat x o hx) (fun e => ?_) (fun e => ?_) (fun e => ?_)
    · rw [e, hB.off.1] at hx; cases hx
    · rw [e, hB.off.2.1] at hx; cases hx
    · rw [e, hB.off.2.2] at hx; cases hx
  · have hx : γ m x = some o := hx
    have hp := hB.offp x (by rw [hx]; simp)
    exact ⟨keep x o (hB.pv x o hx).1 hp.2.1 hp.2.2.1 hp.2.2.2, (hB.pv x o hx).2⟩
/-- Blocks of a call's own, in memory. -/
structure PInR (J : Job) (a : J.St) (l : Priv) (u : World) : Prop where
  on : ∀ b ob, l b = some ob → u.heap[b]? = some ob ∧ ¬ J.foot a b ∧ RealO ob
variable {Wg : Nat} {s : SV}
/-- A piece of the asker's call. -/
theorem askP {i low : Nat} {l : Priv} {n : (bwK B T A H N m rows old bb eb ob).Ix} {k : Nat} {d : TSt × (TPos ⊕ TRes)} {w : World} {x : Code} {t : Array Value} {Q : (bwK B T A H N m rows old bb eb ob).Ix → Exit → Array Value → World → Prop}
    (h : AtT (bwK B T A H N m rows old bb eb ob) Wg s (m, i, low) l n k a d w) (hc : okCode thrOk false x = true)
    (hwp : ∀ u, TRep T A H N a u → PInR (talJob T A H N) a l u → x.wp Try.prog (onlyN fun a' u' => a'.defers = [] ∧ ∃ l', Sm (fun b => l b ≠ none) u u' ∧ PInR (talJob T A H N) a l' u' ∧ (∀ b, l' b ≠ none → l b ≠ none ∨ u.heap.size ≤ b) ∧
      ∀ w', AtT (bwK B T A H N m rows old bb eb ob) Wg s (m, i, low) l' n k a d w' → Q n .normal a'.tmps w') ⟨t, []⟩ u) : cps (envT (bwK B T A H N m rows old bb eb ob).core.spec Wg (WgL Wg) s) x Q n t w := by
  obtain ⟨n1, E, θ⟩ := n
  obtain ⟨h1, h2, h3, h4, h5, b, γ, o, h6, hpg, h7⟩ := h
  refine aloneT h3 h4 h5 hc fun u hu => ?_
  obtain ⟨hY, ho⟩ := h6 u hu
  have hl : γ m = l := hpg
  have hY : TRep T A H N a u ∧ BwMem old bb eb ob b (γ m) u ∧ ∀ x, (x = T ∨ x = A ∨ x = H) → ¬ bwFoot old bb eb ob (γ m) x := hY
  rw [hl] at hY
  obtain ⟨hA, hB, hd⟩ := hY
  have lt : ∀ {b : Nat} {o : Obj}, u.heap[b]? = some o → b < u.heap.size := fun h => (Array.getElem?_eq_some_iff.1 h).1
  have hin : PInR (talJob T A H N) a l u := ⟨fun x o hx => ⟨(hB.pv x o hx).1, fun hf => hd x hf (.inr (.inr (.inr (.inr (by rw [hx]; simp))))), (hB.pv x o hx).2⟩⟩
  refine wp_mono (hwp u hA hin) fun e a₁ u' q => ?_
  cases e with
  | normal =>
    obtain ⟨q1, l', hs, hp, hg, hq⟩ := q
    refine ⟨rfl, q1, fun w' hps hwd _ => ?_⟩
    have e1 : set1 γ m l' m = l' := set1_at
    have foot' : ∀ x, bwFoot old bb eb ob l' x → bwFoot old bb eb ob l x ∨ u.heap.size ≤ x := fun x hx => by
      rcases hx with hx | hx | hx | hx | hx
      · exact .inl (.inl hx)
      · exact .inl (.inr (.inl hx))
      · exact .inl (.inr (.inr (.inl hx)))
      · exact .inl (.inr (.inr (.inr (.inl hx))))
      · exact (hg x hx).imp (fun h => .inr (.inr (.inr (.inr h)))) id
    have keep : ∀ x o, u.heap[x]? = some o → l x = none → u'.heap[x]? = some o := fun x o hx hn => by
      rw [hs.block x (lt hx) fun h => h hn]; exact hx
    have offl : ∀ x, l x ≠ none → old.ob x = none ∧ x ≠ bb ∧ x ≠ eb ∧ x ≠ ob := hB.offp
    have nl : ∀ {x : Nat}, (old.ob x ≠ none ∨ x = bb ∨ x = eb ∨ x = ob) → l x = none := fun {x} hx => by
      cases hlx : l x with
      | none => rfl
      | some o =>
        have := offl x (by rw [hlx]; simp)
        rcases hx with hx | hx | hx | hx
        · exact absurd this.1 hx
        · exact absurd hx this.2.1
        · exact absurd hx this.2.2.1
        · exact absurd hx this.2.2.2
    have hA' : TRep T A H N a u' := (talJob T A H N).frame a u u' (fun x hx => by
      obtain ⟨o, ho, _⟩ := (talJob T A H N).real a u x hA hx
      rw [ho]
      refine keep x o ho ?_
      cases hlx : l x with
      | none => rfl
      | some o => exact absurd (.inr (.inr (.inr (.inr (by rw [hlx]; simp))))) (hd x hx)) hA
    have hB' : BwMem old bb eb ob b l' u' := by
      refine ⟨fun x o hx => keep x o (hB.stat x o hx) (nl (.inl (by rw [hx]; simp))), hB.rb.of_heap (hs.block _ hB.rb.lt fun h => h (nl (.inr (.inl rfl)))), hB.re.of_heap (hs.block _ hB.re.lt fun h => h (nl (.inr (.inr (.inl rfl))))), hB.ro.of_heap (hs.block _ hB.ro.lt fun h => h (nl (.inr (.inr (.inr rfl))))),
        fun x o hx => ⟨(hp.on x o hx).1, (hp.on x o hx).2.2⟩, hB.off, fun x hx => ?_, hB.ne, hB.lt⟩
      rcases hg x hx with h | h
      · exact offl x h
      · have hb1 := hB.rb.lt
        have hb2 := hB.re.lt
        have hb3 := hB.ro.lt
        refine ⟨?_, by omega, by omega, by omega⟩
        cases hox : old.ob x with
        | none => rfl
        | some o => have := lt (hB.stat x o hox); omega
    have hd' : ∀ x, (x = T ∨ x = A ∨ x = H) → ¬ bwFoot old bb eb ob l' x := fun x hx hf => by
      rcases foot' x hf with h | h
      · exact hd x hx h
      · obtain ⟨o, ho, _⟩ := (talJob T A H N).real a u x hA hx
        have := lt ho; omega
    have hB2 : ∀ l2 : Priv, l2 = l' → BwMem old bb eb ob b l2 u' := fun l2 e => by subst e; exact hB'
    have hd2 : ∀ l2 : Priv, l2 = l' → ∀ x, (x = T ∨ x = A ∨ x = H) → ¬ bwFoot old bb eb ob l2 x := fun l2 e => by subst e; exact hd'
    have hf2 : ∀ l2 : Priv, l2 = l' → ∀ x, ¬ ((x = T ∨ x = A ∨ x = H) ∨ bwFoot old bb eb ob l' x) → ¬ ((x = T ∨ x = A ∨ x = H) ∨ bwFoot old bb eb ob l2 x) := fun l2 e x h => by subst e; exact h
    have hrep : (bwK B T A H N m rows old bb eb ob).core.spec.Rep (((a, b), set1 γ m l'), o) u' := by
      refine ⟨⟨hA', ?_, ?_⟩, fun x obj hob => ?_, hs.os.trans ho.os, hs.output.trans ho.out⟩
      · exact hB2 _ e1
      · exact hd2 _ e1
      · obtain ⟨q1, q2, q3⟩ := ho.on x obj hob
        have q2 : ¬ ((x = T ∨ x = A ∨ x = H) ∨ bwFoot old bb eb ob (γ m) x) := q2
        rw [hl] at q2
        refine ⟨?_, ?_, q3⟩
        · refine keep x obj q1 ?_
          cases hlx : l x with
          | none => rfl
          | some o => exact absurd (.inr (.inr (.inr (.inr (.inr (by rw [hlx]; simp)))))) q2
        · refine hf2 _ e1 x fun h => ?_
          rcases h with h | h
          · exact q2 (.inl h)
          · rcases foot' x h with h' | h'
            · exact q2 (.inr h')
            · have := lt q1; omega
    refine hq w' ⟨h1, h2, h3, h4, hwd, b, set1 γ m l', o, RepT.intro hps hrep, e1, fun z hz => h7 z ⟨⟨hz.1.st, fun j hj => (hz.1.others j hj).trans (set1_ne hj), hz.1.pc⟩, hz.2⟩⟩
  | _ => exact q.elim
end
end Go.Proofs.Ytdedmmjmiakidaa
/- Plain words: a tally's Add, in any company. No condition. -/
namespace Go.Proofs.Ytdedmmjmiakidaa
open Go.Conc Go.RowKit
section
variable {T A H n : Nat} (Γ : Gated (talJob T A H n))
theorem Gated.alone_t {m : Γ.E.ι} {k : Nat} {a : TSt} {d : TSt × (TPos ⊕ TRes)} {w : World} {c : Code} {t : Array Value} {Q : Γ.E.ι → Exit → Array Value → World → Prop} (h : Γ.At m k a d w) (hc : okCode thrOk false c = true)
    (hwp : ∀ u, TRep T A H n a u → c.wp Try.prog (onlyN fun a' u' => a'.defers = [] ∧ ∃ σ', TRep T A H n σ' u' ∧ Sm (fun b => b = T ∨ b = A ∨ b = H) u u' ∧ ∀ w', Γ.At m k σ' d w' → Q m .normal a'.tmps w') ⟨t, []⟩ u) : cps Γ.E c Q m t w :=
  Γ.alone h hc fun u hu => wp_mono (hwp u hu) fun e a' u' q => by
    cases e with
    | normal =>
      obtain ⟨q1, σ', q2, q3, q4⟩ := q
      exact ⟨rfl, q1, σ', q2, fun _ => Iff.rfl, q3, q4⟩
    | _ => exact q.elim
set_option maxRecDepth 100000 in
set_option maxHeartbeats 4000000 in
theorem add_e {i v : Nat} (hi : i < n) {m : Γ.E.ι} {k : Nat} {a : TSt} {w : World} (h : Γ.At m k a (a, .inl (.add i v)) w) {Q : Γ.E.ι → Value → World → Prop}
    (hq : ∀ m' k' a' w' (x : Nat), k' < k → x < 18446744073709551616 → Γ.At m' k' a' (a', .inr (.num x)) w' → Q m' (.tuple #[.int .u64 x, .int .i64 0]) w') :
    cpsC Γ.E 19 #[.pointer (some ⟨T, 0, none⟩), Γ.gate, .int .i64 i, .int .u64 v] Q m w := by
  have O := Γ.ok
  have hn : n ≤ 64 := by
    obtain ⟨u0, hu0⟩ := Γ.rep _ _ _ _ _ h
    have hu0 : TRep T A H n a u0 := hu0
    have := hu0.tal.le
    rw [hu0.len] at this
    exact this
  refine cpsC_body O (by rw [Γ.P]; exact Try.func19) rfl ?_
  simp only [Try.ntmps19]
  refine cps_opaque fun Q' hQ => ?_
  have Hq := Lib.hid hq
  clear hq
  walk_nrm
  repeat refine cps_seq O ?_
  (refine cps_region O ?_; simp only [List.size_toArray, List.length_cons, List.length_nil, Nat.reduceAdd, Nat.zero_add, List.range, List.range.loop])
  refine valE O Γ.P (.int .u64 0) rfl rfl (fun _ => by simp [go_sem]) (fun _ => by go_simp; try (first | rfl | (simp [*]))) ?_; try walk_nrm
  refine valE O Γ.P (.int .i64 0) rfl rfl (fun _ => by simp [go_sem]) (fun _ => by go_simp; try (first | rfl | (simp [*]))) ?_; try walk_nrm
  refine cpsR_nil O ?_
  show cps _ _ _ _ _ _
  refine cps_seq O ?_
  refine cps_block O ?_
  refine cps_seq O ?_
  refine Gated.alone_t Γ h (by kernel_rfl) fun u hu => ?_
  have hnn := tnone_c T A a.s u hu.tal
  have Hu := Lib.hid hu
  clear hu
  go_wp2_with fail
  refine hnn.mono ?_
  rintro e u1 ⟨rfl, rfl⟩
  go_wp2
  refine ⟨rfl, a, Hu.out, Sm.refl _ _, fun w3 h3 => ?_⟩
  clear hnn Hu h
  show cps _ _ _ _ _ _
  refine cps_cond O (v := false) rfl ?_
  simp only [Bool.false_eq_true, if_false]
  refine cps_seq O ?_
  refine Gated.alone_t Γ h3 (by kernel_rfl) fun u hu => ?_
  have hc := hu.head
  have Hu := Lib.hid hu
  clear hu
  have g1 : ¬ (i : Int) < 0 := by omega
  have g2 : ¬ (n : Int) ≤ (i : Int) := by omega
  go_wp2
  refine ⟨rfl, a, Hu.out, Sm.refl _ _, fun w4 h4 => ?_⟩
  clear Hu h3 hc
  show cps _ _ _ _ _ _
  refine cps_cond O (v := false) rfl ?_
  simp only [Bool.false_eq_true, if_false]
  refine cps_skip O ?_
  show cps _ _ _ _ _ _
  refine cps_seq O ?_
  (refine cps_region O ?_; simp only [List.size_toArray, List.length_cons, List.length_nil, Nat.reduceAdd, Nat.zero_add, List.range, List.range.loop])
  refine valE O Γ.P (Γ.gate) rfl rfl (fun _ => by simp [go_sem]) (fun _ => by go_simp; try (first | rfl | (simp [*]))) ?_; try walk_nrm
  refine valE O Γ.P (.int .i64 i) rfl rfl (fun _ => by simp [go_sem]) (fun _ => by go_simp; try (first | rfl | (simp [*]))) ?_; try walk_nrm
  refine callE O Γ.P (f := 46) (vals := #[Γ.gate, .int .u8 3, .int .i64 i]) rfl rfl rfl Try.func46 rfl rfl rfl ?_
  refine cpsC.mono (Γ.step h4) ?_
  rintro m6 v6 w6 ⟨rfl, k6, a6, hk6, h6⟩
  clear h4
  have hx : (talJob T A H n).exec (.add i v) a6 = ({ (a6 : TSt) with s := addAt (TSt.s a6) i v }, .inr (.num (((TSt.s a6).getD i 0 + v) % 18446744073709551616))) := rfl
  rw [hx] at h6
  clear hx
  try walk_nrm
  refine cpsR_nil O ?_
  show cps _ _ _ _ _ _
  obtain ⟨x, hx⟩ : ∃ x, x = ((TSt.s a6).getD i 0 + v) % 18446744073709551616 := ⟨_, rfl⟩
  rw [← hx] at h6
  have hxl : x < 18446744073709551616 := by rw [hx]; exact Nat.mod_lt _ (by decide)
  refine cps_seq O ?_
  refine Gated.alone_t Γ h6 (by kernel_rfl) fun u hu => ?_
  have hc := hu.head
  have hs := hu.shard hi
  have hfz := hu.tal.rA.free i
  have hadd := aadd ⟨A, i, none⟩ _ v x u hs hfz hx.symm
  have hr := hu.addS i v
  rw [← hx] at hr
  have Hr := Lib.hid hr
  clear hu hr hs hfz hx
  have g3 : decide (i < n) = true := by simpa using hi
  go_wp2_with fail
  refine hadd.mono ?_
  rintro e u1 ⟨rfl, hu1⟩
  have Hu1 := Lib.hid hu1
  clear hu1
  go_wp2
  rw [← Hu1.out]
  refine ⟨rfl, _, Hr.out, (Sm.refl _ _).setCell (.inr (.inl rfl)) _, fun w7 h7 => ?_⟩
  clear Hu1 Hr
  show cps _ _ _ _ _ _
  exact cps_ret O (hQ _ _ _ _ ⟨.inr rfl, .tuple #[.int .u64 x, .int .i64 0], ret2E O Γ.P rfl rfl, Hq.out _ _ _ _ _ hk6 hxl h7⟩)
end
end Go.Proofs.Ytdedmmjmiakidaa
/- Plain words: a region that draws its order, in company, by what holds of each set of what is done. No condition. -/
namespace Go.Proofs.Ytdedmmjmiakidaa
open Go.Conc Go.RowKit
section
variable {md : Region.Mode} {ops : Array Oper} {r : Nat → Nat}
/-- Who is done has his due done. -/
def Closed (md : Region.Mode) (ops : Array Oper) (listed : Array Bool) : Prop := ∀ j o, ops[j]? = some o → listed.getD j false = true → ∀ e ∈ o.after, Region.binds md e = true → listed.getD e.on false = true
/-- Each waits for lower ones alone. -/
def upward (md : Region.Mode) (r : Nat → Nat) (ops : Array Oper) : Bool := (List.range ops.size).all fun i => (ops[i]?).all fun o => o.after.all fun e => !Region.binds md e || (decide (r e.on < r i) && decide (e.on < ops.size))
theorem upward_on (h : upward md r ops = true) {i : Nat} {o : Oper} (ho : ops[i]? = some o) : ∀ e ∈ o.after, Region.binds md e = true → r e.on < r i ∧ e.on < ops.size := by
  have hi := (Array.getElem?_eq_some_iff.1 ho).1
  have h1 := List.all_eq_true.1 h i (List.mem_range.2 hi)
  rw [ho] at h1
  intro e he hb
  have := Array.all_eq_true_iff_forall_mem.1 h1 e he
  simpa [hb] using this
theorem ready_mem {listed : Array Bool} {i : Nat} (h : i ∈ Region.ready md ops listed) : ∃ o, ops[i]? = some o ∧ listed.getD i true = false ∧ ∀ e ∈ o.after, Region.binds md e = true → listed.getD e.on false = true := by
  obtain ⟨h1, h2⟩ := List.mem_filter.1 h
  have hi := List.mem_range.1 h1
  simp only [Bool.and_eq_true, Bool.not_eq_true'] at h2
  refine ⟨ops[i], Array.getElem?_eq_getElem hi, h2.1, fun e he hb => ?_⟩
  have h3 := h2.2
  rw [Array.getElem?_eq_getElem hi] at h3
  simp only [Option.map_some, Option.getD_some] at h3
  have := Array.all_eq_true_iff_forall_mem.1 h3 e he
  simpa [hb] using this
theorem getD_setT (listed : Array Bool) (i j : Nat) (d : Bool) (hi : i < listed.size) : (listed.setIfInBounds i true).getD j d = if j = i then true else listed.getD j d := by
  simp only [Array.getD_eq_getD_getElem?, Array.getElem?_setIfInBounds]
  by_cases e : i = j
  · subst e; simp [hi]
  · rw [if_neg e, if_neg (fun h => e h.symm)]
theorem getD_low {listed : Array Bool} {i : Nat} (h : listed.getD i true = false) : i < listed.size := by
  rw [Array.getD_eq_getD_getElem?] at h
  by_cases hi : i < listed.size
  · exact hi
  · rw [Array.getElem?_eq_none (by omega)] at h
    cases h
theorem Closed.next {listed : Array Bool} (h : Closed md ops listed) {i : Nat} {o : Oper} (ho : ops[i]? = some o) (hi : i < listed.size) (hr : ∀ e ∈ o.after, Region.binds md e = true → listed.getD e.on false = true) : Closed md ops (listed.setIfInBounds i true) := by
  intro j o' ho' hj e he hb
  rw [getD_setT _ _ _ _ hi] at hj ⊢
  by_cases e1 : e.on = i
  · rw [if_pos e1]
  · rw [if_neg e1]
    by_cases e2 : j = i
    · subst e2
      rw [ho] at ho'
      obtain rfl := Option.some.inj ho'
      exact hr e he hb
    · rw [if_neg e2] at hj
      exact h j o' ho' hj e he hb
theorem ready_none (hu : upward md r ops = true) {listed : Array Bool} (hsz : listed.size = ops.size) (h : Region.ready md ops listed = []) : ∀ i, i < ops.size → listed.getD i true = true := by
  have key : ∀ N i, r i = N → i < ops.size → listed.getD i true = true := by
   intro N
   induction N using Nat.strongRecOn with
   | ind N ih =>
    intro i hN hi
    cases hl : listed.getD i true with
    | true => rfl
    | false =>
      exfalso
      have hsz := getD_low hl
      have : i ∈ Region.ready md ops listed := by
        refine List.mem_filter.2 ⟨List.mem_range.2 hi, ?_⟩
        rw [hl, Array.getElem?_eq_getElem hi]
        simp only [Bool.not_false, Bool.true_and, Option.map_some, Option.getD_some]
        refine Array.all_eq_true_iff_forall_mem.2 fun e he => ?_
        cases hbd : Region.binds md e with
        | false => rfl
        | true =>
        have h1 := upward_on hu (Array.getElem?_eq_getElem hi) e he hbd
        have h2 := ih (r e.on) (by rw [← hN]; exact h1.1) e.on rfl h1.2
        have h3 : listed.getD e.on false = true := by
          rw [Array.getD_eq_getD_getElem?] at h2 ⊢
          cases hq : listed[e.on]? with
          | none =>
            exfalso
            have hle := Array.getElem?_eq_none_iff.1 hq
            have := h1.2
            omega
          | some x => rw [hq] at h2; exact h2
        simp [h3]
      rw [h] at this
      cases this
  exact fun i => key (r i) i rfl
variable {E : Env} {Qr : E.ι → Array Value → World → Prop}
/-- By an invariant over what is done. -/
theorem cpsR_ord (hu : upward md r ops = true) (Inv : Array Bool → E.ι → Array Value → World → Prop)
    (hstep : ∀ listed i o l n t w, listed.size = ops.size → ops[i]? = some o → listed.getD i true = false → (∀ e ∈ o.after, Region.binds md e = true → listed.getD e.on false = true) → Closed md ops listed → Inv listed n t w →
      (∀ n' t' w', Inv (listed.setIfInBounds i true) n' t' w' → cpsR E ops l Qr n' t' w') → cpsR E ops (i :: l) Qr n t w)
    (hend : ∀ listed n t w, listed.size = ops.size → (∀ i, i < ops.size → listed.getD i true = true) → Inv listed n t w → cpsR E ops [] Qr n t w) :
    ∀ {listed : Array Bool} {l : List Nat}, Ord md ops listed l → listed.size = ops.size → Closed md ops listed → ∀ {n t w}, Inv listed n t w → cpsR E ops l Qr n t w := by
  intro listed l h
  induction h with
  | nil h => exact fun hs _ n t w hi => hend _ n t w hs (ready_none hu hs h) hi
  | cons h hl ih =>
    intro hs hc n t w hi
    obtain ⟨o, ho, h1, h2⟩ := ready_mem h
    have hlt := getD_low h1
    exact hstep _ _ o _ n t w hs ho h1 h2 hc hi fun n' t' w' hi' => ih (by simpa using hs) (hc.next ho hlt h2) hi'
/-- A region that draws, so. -/
theorem cps_ord (O : E.Ok) (hP : E.P.follows .mixedOrders = true) (hu : upward .any r ops = true) {id : Nat} {Q : E.ι → Exit → Array Value → World → Prop} (Inv : Array Bool → E.ι → Array Value → World → Prop)
    (hstep : ∀ listed i o l n t w, listed.size = ops.size → ops[i]? = some o → listed.getD i true = false → (∀ e ∈ o.after, Region.binds .any e = true → listed.getD e.on false = true) → Closed .any ops listed → Inv listed n t w →
      (∀ n' t' w', Inv (listed.setIfInBounds i true) n' t' w' → cpsR E ops l (fun n t w => Q n .normal t w) n' t' w') → cpsR E ops (i :: l) (fun n t w => Q n .normal t w) n t w)
    (hend : ∀ listed n t w, listed.size = ops.size → (∀ i, i < ops.size → listed.getD i true = true) → Inv listed n t w → cpsR E ops [] (fun n t w => Q n .normal t w) n t w)
    {n : E.ι} {t : Array Value} {w : World} (h : Inv (Array.replicate ops.size false) n t w) : cps E (.region id ops true) Q n t w :=
  cps_region_draw O fun m => cpsR_ord hu Inv hstep hend (schedule_ord hP ops m) (by simp) (fun j o ho hj => by
    exfalso
    have hi := (Array.getElem?_eq_some_iff.1 ho).1
    rw [Array.getD_eq_getD_getElem?] at hj
    simp [hi] at hj) h
end
end Go.Proofs.Ytdedmmjmiakidaa
/- Plain words: a frame under a region that draws its order. No condition. -/
namespace Go.Proofs.Ytdedmmjmiakidaa
open Go.Conc Go.RowKit
section
variable {ops : Array Oper} {base t t' : Array Value} {val : Nat → Value} {listed : Array Bool} {i j s : Nat}
def dstOf (ops : Array Oper) (j : Nat) : Option Nat := (ops[j]?).bind (·.dst)
/-- No slot is written twice, none lies outside. -/
structure ApartD (ops : Array Oper) (N : Nat) : Prop where
  one : ∀ j j' s, dstOf ops j = some s → dstOf ops j' = some s → j = j'
  low : ∀ j s, dstOf ops j = some s → s < N
/-- The frame where these are done. -/
structure FrD (ops : Array Oper) (base : Array Value) (val : Nat → Value) (listed : Array Bool) (t : Array Value) : Prop where
  size : t.size = base.size
  on : ∀ j s, listed.getD j false = true → dstOf ops j = some s → t[s]? = some (val j)
  off : ∀ s, (∀ j, listed.getD j false = true → dstOf ops j ≠ some s) → t[s]? = base[s]?
theorem FrD.get (h : FrD ops base val listed t) (hl : listed.getD j false = true) (hd : dstOf ops j = some s) : t.getD s undef = val j := by
  rw [Array.getD_eq_getD_getElem?, h.on j s hl hd]; rfl
theorem FrD.low (h : FrD ops base val listed t) (hd : ∀ j, dstOf ops j ≠ some s) : t.getD s undef = base.getD s undef := by
  rw [Array.getD_eq_getD_getElem?, h.off s fun j _ => hd j, Array.getD_eq_getD_getElem?]
theorem FrD.start : FrD ops base val (Array.replicate ops.size false) base := ⟨rfl, fun j s hl _ => by
  exfalso
  rw [Array.getD_eq_getD_getElem?, Array.getElem?_replicate] at hl
  split at hl <;> simp at hl, fun s _ => rfl⟩
theorem FrD.put (h : FrD ops base val listed t) (ha : ApartD ops base.size) (hi : i < listed.size) : FrD ops base val (listed.setIfInBounds i true) ((⟨t, []⟩ : Act).put (dstOf ops i) (val i)).tmps := by
  cases hd : dstOf ops i with
  | none =>
    simp only [Act.put]
    refine ⟨h.size, fun j s hl hj => ?_, fun s hs => h.off s fun j hl => ?_⟩
    · rw [getD_setT _ _ _ _ hi] at hl
      by_cases e : j = i
      · subst e; rw [hd] at hj; cases hj
      · rw [if_neg e] at hl; exact h.on j s hl hj
    · refine hs j ?_
      rw [getD_setT _ _ _ _ hi]
      split
      · rfl
      · exact hl
  | some d =>
    have hdl := ha.low i d hd
    simp only [Act.put]
    refine ⟨by simpa using h.size, fun j s hl hj => ?_, fun s hs => ?_⟩
    · rw [getD_setT _ _ _ _ hi] at hl
      rw [Array.getElem?_setIfInBounds]
      by_cases e : j = i
      · subst e
        rw [hd] at hj
        obtain rfl := Option.some.inj hj
        rw [if_pos rfl, if_pos (by rw [h.size]; exact hdl)]
      · rw [if_neg e] at hl
        have hne : d ≠ s := fun e' => e (ha.one j i s hj (by rw [hd, e']))
        rw [if_neg hne]
        exact h.on j s hl hj
    · have hne : d ≠ s := fun e' => hs i (by rw [getD_setT _ _ _ _ hi, if_pos rfl]) (by rw [hd, e'])
      rw [Array.getElem?_setIfInBounds, if_neg hne]
      refine h.off s fun j hl => hs j ?_
      rw [getD_setT _ _ _ _ hi]
      split
      · rfl
      · exact hl
theorem FrD.unique (h : FrD ops base val listed t) (h' : FrD ops base val listed t') : t = t' := by
  refine Array.ext_getElem? fun s => ?_
  by_cases e : ∃ j, listed.getD j false = true ∧ dstOf ops j = some s
  · obtain ⟨j, h1, h2⟩ := e
    rw [h.on j s h1 h2, h'.on j s h1 h2]
  · have e : ∀ j, listed.getD j false = true → dstOf ops j ≠ some s := fun j h1 h2 => e ⟨j, h1, h2⟩
    rw [h.off s e, h'.off s e]
/-- The frame behind it all. -/
def allPut (ops : Array Oper) (base : Array Value) (val : Nat → Value) : Nat → Array Value
  | 0 => base
  | k + 1 => ((⟨allPut ops base val k, []⟩ : Act).put (dstOf ops k) (val k)).tmps
def firstN (N : Nat) : Nat → Array Bool
  | 0 => Array.replicate N false
  | k + 1 => (firstN N k).setIfInBounds k true
theorem firstN_size (N : Nat) : ∀ k, (firstN N k).size = N
  | 0 => by simp [firstN]
  | k + 1 => by simp [firstN, firstN_size N k]
theorem firstN_get (N : Nat) : ∀ k, k ≤ N → ∀ j, (firstN N k).getD j false = decide (j < k)
  | 0, _, j => by
    simp only [firstN, Array.getD_eq_getD_getElem?, Array.getElem?_replicate]
    split <;> simp
  | k + 1, hk, j => by
    show ((firstN N k).setIfInBounds k true).getD j false = _
    rw [getD_setT _ _ _ _ (by rw [firstN_size]; omega), firstN_get N k (by omega) j]
    by_cases e : j = k
    · subst e; simp
    · rw [if_neg e]
      by_cases e2 : j < k
      · simp [e2, show j < k + 1 by omega]
      · simp [e2, show ¬ j < k + 1 by omega]
theorem FrD.first (ha : ApartD ops base.size) : ∀ k, k ≤ ops.size → FrD ops base val (firstN ops.size k) (allPut ops base val k)
  | 0, _ => FrD.start
  | k + 1, hk => FrD.put (FrD.first ha k (by omega)) ha (by rw [firstN_size]; omega)
theorem FrD.all (h : FrD ops base val listed t) (ha : ApartD ops base.size) (hs : listed.size = ops.size) (hl : ∀ i, i < ops.size → listed.getD i true = true) : t = allPut ops base val ops.size := by
  have e : listed = firstN ops.size ops.size := by
    refine Array.ext (by rw [hs, firstN_size]) fun i h1 h2 => ?_
    have q1 := hl i (by omega)
    have q2 := firstN_get ops.size ops.size (Nat.le_refl _) i
    rw [Array.getD_eq_getD_getElem?, Array.getElem?_eq_getElem h1] at q1
    rw [Array.getD_eq_getD_getElem?, Array.getElem?_eq_getElem h2] at q2
    simp only [Option.getD_some] at q1 q2
    rw [q1, q2]
    simp [show i < ops.size by omega]
  subst e
  exact h.unique (FrD.first ha ops.size (Nat.le_refl _))
/-- .. told by looking. -/
def apartB (ops : Array Oper) (N : Nat) : Bool := (List.range ops.size).all fun j => match dstOf ops j with
  | none => true
  | some s => decide (s < N) && (List.range ops.size).all fun j' => j' == j || dstOf ops j' != some s
theorem apart_of {N : Nat} (h : apartB ops N = true) : ApartD ops N := by
  have lt : ∀ j s, dstOf ops j = some s → j < ops.size := fun j s hj => by
    unfold dstOf at hj
    by_cases e : j < ops.size
    · exact e
    · rw [Array.getElem?_eq_none (by omega)] at hj
      cases hj
  have key : ∀ j s, dstOf ops j = some s → s < N ∧ ∀ j', j' < ops.size → j' = j ∨ dstOf ops j' ≠ some s := fun j s hj => by
    have h1 := List.all_eq_true.1 h j (List.mem_range.2 (lt j s hj))
    rw [hj] at h1
    simp only [Bool.and_eq_true, decide_eq_true_eq] at h1
    refine ⟨h1.1, fun j' hj' => ?_⟩
    have h2 := List.all_eq_true.1 h1.2 j' (List.mem_range.2 hj')
    simpa using h2
  exact ⟨fun j j' s h1 h2 => (((key j s h1).2 j' (lt j' s h2)).resolve_right fun h => h h2).symm, fun j s h1 => (key j s h1).1⟩
end
end Go.Proofs.Ytdedmmjmiakidaa
/- Plain words: what a region that draws has done. No condition. -/
namespace Go.Proofs.Ytdedmmjmiakidaa
open Go.Conc Go.RowKit
section
variable {ops : Array Oper} {base t : Array Value} {val : Nat → Value} {listed : Array Bool} {s : Nat}
def noDst (ops : Array Oper) (s : Nat) : Bool := (List.range ops.size).all fun j => dstOf ops j != some s
theorem FrD.ground (h : FrD ops base val listed t) (hd : noDst ops s = true) : t.getD s undef = base.getD s undef := h.low fun j hj => by
  have lt : j < ops.size := by
    unfold dstOf at hj
    by_cases e : j < ops.size
    · exact e
    · rw [Array.getElem?_eq_none (by omega)] at hj; cases hj
  have := List.all_eq_true.1 hd j (List.mem_range.2 lt)
  rw [hj] at this
  simp at this
theorem getD_false {i : Nat} (h : listed.getD i true = false) : listed.getD i false = false := by
  have := getD_low h
  rw [Array.getD_eq_getD_getElem?] at h ⊢
  rw [Array.getElem?_eq_getElem this] at h ⊢
  exact h
theorem getD_true {i : Nat} (h : listed.getD i false = true) : listed.getD i true = true := by
  rw [Array.getD_eq_getD_getElem?] at h ⊢
  cases hl : listed[i]? with
  | none => rfl
  | some b => rw [hl] at h; exact h
theorem FrD.put' {i : Nat} {d : Option Nat} {v : Value} (h : FrD ops base val listed t) (ha : ApartD ops base.size) (hi : i < listed.size) (hd : dstOf ops i = d) (hv : val i = v) : FrD ops base val (listed.setIfInBounds i true) ((⟨t, []⟩ : Act).put d v).tmps := by
  subst hd hv
  exact h.put ha hi
/-- One operation waits for another. -/
def needs (ops : Array Oper) (j i : Nat) : Bool := match ops[j]? with
  | some o => o.after.any fun e => e.on == i && Region.binds .any e
  | none => false
theorem Closed.need {i j : Nat} (h : Closed .any ops listed) (hn : needs ops j i = true) (hl : listed.getD j false = true) : listed.getD i false = true := by
  unfold needs at hn
  cases ho : ops[j]? with
  | none => rw [ho] at hn; cases hn
  | some o =>
    rw [ho] at hn
    obtain ⟨q, hq, h2⟩ := Array.any_eq_true.1 hn
    have he := Array.getElem_mem hq
    obtain ⟨e, hee⟩ : ∃ e, e = o.after[q] := ⟨_, rfl⟩
    rw [← hee] at he h2
    simp only [Bool.and_eq_true, beq_iff_eq] at h2
    rw [← h2.1]
    exact h j o ho hl e he h2.2
theorem getD_setNe {i j : Nat} (hi : i < listed.size) (h : j ≠ i) : (listed.setIfInBounds i true).getD j false = listed.getD j false := by
  rw [getD_setT _ _ _ _ hi, if_neg h]
theorem getD_setEq {i : Nat} (hi : i < listed.size) : (listed.setIfInBounds i true).getD i false = true := by
  rw [getD_setT _ _ _ _ hi, if_pos rfl]
theorem FrD.yield {j : Nat} {b : Bool} (h : FrD ops base val listed t) (hl : listed.getD j false = true) (hd : dstOf ops j = some s) (hv : val j = .bool b) : yielded ops t j = some b := by
  unfold yielded
  unfold dstOf at hd
  rw [hd]
  show (match t[s]? with | some (.bool b) => some b | _ => none) = _
  rw [h.on j s hl hd, hv]
theorem FrD.congr {val' : Nat → Value} (h : FrD ops base val listed t) (he : ∀ j, listed.getD j false = true → val j = val' j) : FrD ops base val' listed t :=
  ⟨h.size, fun j s hl hd => by rw [← he j hl]; exact h.on j s hl hd, h.off⟩
/-- Whoever the last one waits for, and they, .. -/
def reach (ops : Array Oper) (last : Nat) : Nat → List Nat → List Nat
  | 0, l => l
  | n + 1, l => reach ops last n (l ++ (List.range ops.size).filter fun i => !l.contains i && l.any fun j => needs ops j i)
theorem Closed.reach (h : Closed .any ops listed) (last : Nat) (hl : listed.getD last false = true) : ∀ (n : Nat) (l : List Nat), (∀ j ∈ l, listed.getD j false = true) → ∀ j ∈ Go.Proofs.Ytdedmmjmiakidaa.reach ops last n l, listed.getD j false = true
  | 0, l, hall => hall
  | n + 1, l, hall => Closed.reach h last hl n _ fun j hj => by
    rcases List.mem_append.1 hj with hj | hj
    · exact hall j hj
    · obtain ⟨_, hj⟩ := List.mem_filter.1 hj
      simp only [Bool.and_eq_true, List.any_eq_true] at hj
      obtain ⟨_, q, hq, hn⟩ := hj
      exact h.need hn (hall q hq)
/-- When the last one is done, all are. -/
theorem Closed.last (h : Closed .any ops listed) {last n i : Nat} (hl : listed.getD last false = true) (hi : (Go.Proofs.Ytdedmmjmiakidaa.reach ops last n [last]).contains i = true) : listed.getD i true = true := getD_true (h.reach last hl n [last] (fun j hj => by
  rw [List.mem_singleton.1 hj]; exact hl) i (by simpa using hi))
end
end Go.Proofs.Ytdedmmjmiakidaa
/- Plain words: the drawn region of one of TallyBetween's counting threads. No condition. -/
namespace Go.Proofs.Ytdedmmjmiakidaa
open Go.Conc Go.RowKit
/-- What stands. -/
structure BwOld (old : Old) (rb pb P R rc T N m : Nat) (kb : Nat → Nat) (rows : List (List Nat)) (ea : Nat → Option Addr) (ec : Nat → Nat) : Prop where
  rb : old.cell ⟨rb, 0, none⟩ (.slice (some ⟨R, 0, none⟩) m rc)
  kb : ∀ k, k < m → old.cell ⟨kb k, 0, none⟩ (.int .i64 k)
  pb : old.cell ⟨pb, 0, none⟩ (.pointer (some ⟨P, 0, none⟩))
  p0 : old.cell ⟨P, 0, none⟩ (.pointer (some ⟨T, 0, none⟩))
  p2 : old.cell ⟨P, 2, none⟩ (.int .i64 N)
  rs : ∀ k, k < m → old.cell ⟨R, k, none⟩ (.slice (ea k) (rowOf rows k).length (ec k))
  row : ∀ k, k < m → ∀ i, i < (rowOf rows k).length → ∃ b o, ea k = some ⟨b, o, none⟩ ∧ old.cell ⟨b, o + i, none⟩ (.int .u64 ((rowOf rows k).getD i 0 : Nat))
theorem add_tg {T A H n : Nat} {K : Client (talJob T A H n)} {Wg ti : Nat} {s : SV} {m : TIx K} {a : TSt} {b : K.All} {w : World} {c : K.C} {i v : Nat} (hi : i < n) (hc : K.tid c = ti) (h : TK K Wg s ti m a b ((a, b.1), some (TPos.add i v, c)) w) {Q : TIx K → Value → World → Prop}
    (hq : ∀ (m' : TIx K) (a' : TSt) (b' : K.All) (x : Nat) (w' : World), x < 18446744073709551616 → TK K Wg s ti m' a' b' (K.fin c (.num x) (a', b'.1)) w' → Q m' (.tuple #[.int .u64 x, .int .i64 0]) w') :
    cpsC (envT K.core.spec Wg (WgL Wg) s) 19 #[.pointer (some ⟨T, 0, none⟩), seatGate s, .int .i64 i, .int .u64 v] Q m w :=
  add_e (gatedT K Wg s c (b.2 ti)) hi (h.call hc) (fun m' k' a' w' x _ hx h' => by
    obtain ⟨b', _, h''⟩ := AtT.answer h' hc
    exact hq m' a' b' x w' hx h'')
noncomputable def b5ops : Array Oper := match (Try.f42.body.getD .skip) with
  | .seq _ (.block _ (.loop (.seq _ (.seq (.block _ (.seq _ (.seq _ (.seq (.region _ ops _) _)))) _)))) => ops
  | _ => #[]
theorem b5_size : b5ops.size = 20 := by kernel_rfl
theorem b5_up : upward .any id b5ops = true := by kernel_rfl
theorem b5_apart : ApartD b5ops 58 := apart_of (by kernel_rfl)
def b5v (P T N : Nat) (s : SV) (k i v x : Nat) : Nat → Value
  | 0 => .pointer (some ⟨P, 0, none⟩)
  | 1 => .pointer (some ⟨P, 0, none⟩)
  | 2 => .pointer (some ⟨P, 0, none⟩)
  | 3 => .pointer (some ⟨T, 0, none⟩)
  | 4 => seatGate s
  | 5 => .int .i64 k
  | 6 => .int .i64 i
  | 7 => .int .i64 (k + i : Nat)
  | 8 => .pointer (some ⟨P, 0, none⟩)
  | 9 => .pointer (some ⟨P, 0, none⟩)
  | 10 => .pointer (some ⟨P, 2, none⟩)
  | 11 => .int .i64 N
  | 12 => .int .i64 ((k + i) % N : Nat)
  | 13 => .int .u64 v
  | 14 => .tuple #[.int .u64 x, .int .i64 0]
  | 15 => .tuple #[.int .u64 x, .int .i64 0]
  | 16 => .int .u64 x
  | 17 => .int .i64 0
  | 18 => .int .u64 x
  | 19 => .int .i64 0
  | _ => undef
theorem b5_cong {P T N : Nat} {s : SV} {k i v x x' : Nat} {listed : Array Bool} (hs : listed.size = 20) (hc : Closed .any b5ops listed) (hl : listed.getD 14 false = false) : ∀ j, listed.getD j false = true → b5v P T N s k i v x j = b5v P T N s k i v x' j := by
  intro j hj
  have n15 : listed.getD 15 false = false := by
    cases e : listed.getD 15 false with
    | false => rfl
    | true => have := hc.need (by kernel_rfl : needs b5ops 15 14 = true) e; rw [hl] at this; cases this
  have n16 : listed.getD 16 false = false := by
    cases e : listed.getD 16 false with
    | false => rfl
    | true => have := hc.need (by kernel_rfl : needs b5ops 16 15 = true) e; rw [n15] at this; cases this
  have n17 : listed.getD 17 false = false := by
    cases e : listed.getD 17 false with
    | false => rfl
    | true => have := hc.need (by kernel_rfl : needs b5ops 17 15 = true) e; rw [n15] at this; cases this
  have n18 : listed.getD 18 false = false := by
    cases e : listed.getD 18 false with
    | false => rfl
    | true => have := hc.need (by kernel_rfl : needs b5ops 18 16 = true) e; rw [n16] at this; cases this
  have n19 : listed.getD 19 false = false := by
    cases e : listed.getD 19 false with
    | false => rfl
    | true => have := hc.need (by kernel_rfl : needs b5ops 19 17 = true) e; rw [n17] at this; cases this
  rcases (show j = 0 ∨ j = 1 ∨ j = 2 ∨ j = 3 ∨ j = 4 ∨ j = 5 ∨ j = 6 ∨ j = 7 ∨ j = 8 ∨ j = 9 ∨ j = 10 ∨ j = 11 ∨ j = 12 ∨ j = 13 ∨ j = 14 ∨ j = 15 ∨ j = 16 ∨ j = 17 ∨ j = 18 ∨ j = 19 ∨ 20 ≤ j by omega) with rfl | rfl | rfl | rfl | rfl | rfl | rfl | rfl | rfl | rfl | rfl | rfl | rfl | rfl | rfl | rfl | rfl | rfl | rfl | rfl | h
  · rfl
  · rfl
  · rfl
  · rfl
  · rfl
  · rfl
  · rfl
  · rfl
  · rfl
  · rfl
  · rfl
  · rfl
  · rfl
  · rfl
  · rw [hl] at hj; cases hj
  · rw [n15] at hj; cases hj
  · rw [n16] at hj; cases hj
  · rw [n17] at hj; cases hj
  · rw [n18] at hj; cases hj
  · rw [n19] at hj; cases hj
  · rw [Array.getD_eq_getD_getElem?, Array.getElem?_eq_none (by omega)] at hj; cases hj

section
variable {B T A H N m : Nat} {rows : List (List Nat)} {old : Old} {bb eb ob : Nat} {rb pb P R rc : Nat} {kb : Nat → Nat} {ea : Nat → Option Addr} {ec : Nat → Nat} {Wg k i v : Nat} {s : SV}
set_option maxRecDepth 100000 in
set_option maxHeartbeats 8000000 in
theorem b5_reg {n : TIx (bwK B T A H N m rows old bb eb ob)} {a : TSt} {β : BwB} {γ : Nat → Priv} {w : World} {f : Nat → Value} (hm : BwOld old rb pb P R rc T N m kb rows ea ec) (hN : 0 < N) (hN64 : N ≤ 64) (hk : k < m) (h16 : m ≤ 16) (hi : i < 1000) (hv : v < 18446744073709551616)
    (h : TK (bwK B T A H N m rows old bb eb ob) Wg s k n a (β, γ) ((a, β), some (TPos.add ((k + i) % N) v, (k, i, 0))) w) {Q : TIx (bwK B T A H N m rows old bb eb ob) → Exit → Array Value → World → Prop}
    (hq : ∀ n' a' (b' : BwB × (Nat → Priv)) (x : Nat) w', TK (bwK B T A H N m rows old bb eb ob) Wg s k n' a' b' (bwFin rows N m (k, i, 0) (.num x) (a', b'.1)) w' → Q n' .normal (allPut b5ops #[seatGate s, .pointer (some ⟨rb, 0, none⟩), .pointer (some ⟨kb k, 0, none⟩), .pointer (some ⟨bb, 0, none⟩), .pointer (some ⟨pb, 0, none⟩), .pointer (some ⟨eb, 0, none⟩), .pointer (some ⟨ob, 0, none⟩), f 7, .int .i64 i, .int .u64 v, f 10, f 11, f 12, f 13, f 14, f 15, f 16, f 17, f 18, f 19, f 20, f 21, f 22, f 23, f 24, f 25, f 26, f 27, f 28, f 29, f 30, f 31, f 32, f 33, f 34, f 35, f 36, f 37, f 38, f 39, f 40, f 41, f 42, f 43, f 44, f 45, f 46, f 47, f 48, f 49, f 50, f 51, f 52, f 53, f 54, f 55, f 56, f 57] (b5v P T N s k i v x) 20) w') :
    cps (envT (bwK B T A H N m rows old bb eb ob).core.spec Wg (WgL Wg) s) (.region 5 b5ops true) Q n #[seatGate s, .pointer (some ⟨rb, 0, none⟩), .pointer (some ⟨kb k, 0, none⟩), .pointer (some ⟨bb, 0, none⟩), .pointer (some ⟨pb, 0, none⟩), .pointer (some ⟨eb, 0, none⟩), .pointer (some ⟨ob, 0, none⟩), f 7, .int .i64 i, .int .u64 v, f 10, f 11, f 12, f 13, f 14, f 15, f 16, f 17, f 18, f 19, f 20, f 21, f 22, f 23, f 24, f 25, f 26, f 27, f 28, f 29, f 30, f 31, f 32, f 33, f 34, f 35, f 36, f 37, f 38, f 39, f 40, f 41, f 42, f 43, f 44, f 45, f 46, f 47, f 48, f 49, f 50, f 51, f 52, f 53, f 54, f 55, f 56, f 57] w := by
  have O := envT_ok (bwK B T A H N m rows old bb eb ob).core.spec Wg (WgL Wg) s
  have apt := b5_apart
  have hs20 := b5_size
  have k0 : (0 : Int) ≤ (k : Int) := by omega
  have n0 : ((N : Int) == 0) = false := by rw [beq_eq_false_iff_ne]; omega
  have nz : ¬ N = 0 := by omega
  have kw : IntKind.i64.wrap ((k : Int) + (i : Int)) = ((k + i : Nat) : Int) := by rw [IntKind.wrap_i64]; omega
  have kw2 : wrap64 ((k : Int) + (i : Int)) = ((k + i : Nat) : Int) := by unfold wrap64; omega
  have kn : ((k + i : Nat) : Int).tmod (N : Int) = (((k + i) % N : Nat) : Int) := by rw [Int.tmod_eq_emod_of_nonneg (by omega)]; rfl
  have kn2 : ((k : Int) + (i : Int)).tmod (N : Int) = (((k + i) % N : Nat) : Int) := by rw [← kn]; congr 1
  refine cps_ord O (by kernel_rfl) b5_up (fun listed n' t w' => ∃ (x : Nat) (a1 : TSt) (b1 : BwB × (Nat → Priv)) (F1 : (TSt × BwB) × Option (TPos × BwC)), FrD b5ops #[seatGate s, .pointer (some ⟨rb, 0, none⟩), .pointer (some ⟨kb k, 0, none⟩), .pointer (some ⟨bb, 0, none⟩), .pointer (some ⟨pb, 0, none⟩), .pointer (some ⟨eb, 0, none⟩), .pointer (some ⟨ob, 0, none⟩), f 7, .int .i64 i, .int .u64 v, f 10, f 11, f 12, f 13, f 14, f 15, f 16, f 17, f 18, f 19, f 20, f 21, f 22, f 23, f 24, f 25, f 26, f 27, f 28, f 29, f 30, f 31, f 32, f 33, f 34, f 35, f 36, f 37, f 38, f 39, f 40, f 41, f 42, f 43, f 44, f 45, f 46, f 47, f 48, f 49, f 50, f 51, f 52, f 53, f 54, f 55, f 56, f 57] (b5v P T N s k i v x) listed t ∧ TK (bwK B T A H N m rows old bb eb ob) Wg s k n' a1 b1 F1 w' ∧ if listed.getD 14 false = true then F1 = bwFin rows N m (k, i, 0) (.num x) (a1, b1.1) else a1 = a ∧ b1 = (β, γ) ∧ F1 = ((a, β), some (TPos.add ((k + i) % N) v, (k, i, 0)))) ?_ ?_ ⟨0, a, (β, γ), _, FrD.start, h, by rw [if_neg (by rw [hs20]; decide)]; exact ⟨rfl, rfl, rfl⟩⟩
  · intro listed i0 o l n' t w' hsz ho hl hr hcl ⟨x, a1, b1, F1, hF, hT, hD⟩ hk2
    have hlt := (Array.getElem?_eq_some_iff.1 ho).1
    rw [hs20] at hlt
    have hcase : i0 = 0 ∨ i0 = 1 ∨ i0 = 2 ∨ i0 = 3 ∨ i0 = 4 ∨ i0 = 5 ∨ i0 = 6 ∨ i0 = 7 ∨ i0 = 8 ∨ i0 = 9 ∨ i0 = 10 ∨ i0 = 11 ∨ i0 = 12 ∨ i0 = 13 ∨ i0 = 14 ∨ i0 = 15 ∨ i0 = 16 ∨ i0 = 17 ∨ i0 = 18 ∨ i0 = 19 := by omega
    have ho2 := ho
    simp only [b5ops, Try.f42, Option.getD_some] at ho2
    clear hq h
    rcases hcase with rfl | rfl | rfl | rfl | rfl | rfl | rfl | rfl | rfl | rfl | rfl | rfl | rfl | rfl | rfl | rfl | rfl | rfl | rfl | rfl
    · obtain rfl := Option.some.inj ho2
      clear ho2
      have e0 : t.getD 4 undef = .pointer (some ⟨pb, 0, none⟩) := hF.ground (by kernel_rfl)
      refine readTK hT (.pointer (some ⟨P, 0, none⟩)) ho (by kernel_rfl) rfl (fun u h1 h2 => ?_) fun w2 hT2 => hk2 _ _ _ ⟨x, a1, b1, F1, hF.put' apt (getD_low hl) (show dstOf b5ops 0 = some 33 by kernel_rfl) rfl, hT2, by rw [getD_setNe (getD_low hl) (by decide)]; exact hD⟩
      have hcl := (BwMem.stat h2).cell (hm.pb)
      simp only [execOp, Act.eval, e0]
      go_simp
    · obtain rfl := Option.some.inj ho2
      clear ho2
      have e0 : t.getD 33 undef = .pointer (some ⟨P, 0, none⟩) := hF.get (hr ⟨0, .data⟩ (by simp) rfl) (by kernel_rfl)
      refine valE O rfl (.pointer (some ⟨P, 0, none⟩)) ho rfl (fun _ => ?_) (fun _ => ?_) (hk2 _ _ _ ⟨x, a1, b1, F1, hF.put' apt (getD_low hl) (show dstOf b5ops 1 = some 34 by kernel_rfl) rfl, hT, by rw [getD_setNe (getD_low hl) (by decide)]; exact hD⟩)
      · simp [go_sem, execOp, Act.eval, *]
      · simp only [execOp, Act.eval, *]; go_simp
    · obtain rfl := Option.some.inj ho2
      clear ho2
      have e0 : t.getD 34 undef = .pointer (some ⟨P, 0, none⟩) := hF.get (hr ⟨1, .data⟩ (by simp) rfl) (by kernel_rfl)
      refine valE O rfl (.pointer (some ⟨P, 0, none⟩)) ho rfl (fun _ => ?_) (fun _ => ?_) (hk2 _ _ _ ⟨x, a1, b1, F1, hF.put' apt (getD_low hl) (show dstOf b5ops 2 = some 35 by kernel_rfl) rfl, hT, by rw [getD_setNe (getD_low hl) (by decide)]; exact hD⟩)
      · simp [go_sem, execOp, Act.eval, *]
      · simp only [execOp, Act.eval, *]; go_simp
    · obtain rfl := Option.some.inj ho2
      clear ho2
      have e0 : t.getD 35 undef = .pointer (some ⟨P, 0, none⟩) := hF.get (hr ⟨2, .data⟩ (by simp) rfl) (by kernel_rfl)
      refine readTK hT (.pointer (some ⟨T, 0, none⟩)) ho (by kernel_rfl) rfl (fun u h1 h2 => ?_) fun w2 hT2 => hk2 _ _ _ ⟨x, a1, b1, F1, hF.put' apt (getD_low hl) (show dstOf b5ops 3 = some 36 by kernel_rfl) rfl, hT2, by rw [getD_setNe (getD_low hl) (by decide)]; exact hD⟩
      have hcl := (BwMem.stat h2).cell (hm.p0)
      simp only [execOp, Act.eval, e0]
      go_simp
    · obtain rfl := Option.some.inj ho2
      clear ho2
      have e0 : t.getD 0 undef = seatGate s := hF.ground (by kernel_rfl)
      refine valE O rfl (seatGate s) ho rfl (fun _ => ?_) (fun _ => ?_) (hk2 _ _ _ ⟨x, a1, b1, F1, hF.put' apt (getD_low hl) (show dstOf b5ops 4 = some 37 by kernel_rfl) rfl, hT, by rw [getD_setNe (getD_low hl) (by decide)]; exact hD⟩)
      · simp [go_sem, execOp, Act.eval, *]
      · simp only [execOp, Act.eval, *]; go_simp
    · obtain rfl := Option.some.inj ho2
      clear ho2
      have e0 : t.getD 2 undef = .pointer (some ⟨kb k, 0, none⟩) := hF.ground (by kernel_rfl)
      refine readTK hT (.int .i64 k) ho (by kernel_rfl) rfl (fun u h1 h2 => ?_) fun w2 hT2 => hk2 _ _ _ ⟨x, a1, b1, F1, hF.put' apt (getD_low hl) (show dstOf b5ops 5 = some 38 by kernel_rfl) rfl, hT2, by rw [getD_setNe (getD_low hl) (by decide)]; exact hD⟩
      have hcl := (BwMem.stat h2).cell (hm.kb k hk)
      simp only [execOp, Act.eval, e0]
      go_simp
    · obtain rfl := Option.some.inj ho2
      clear ho2
      have e0 : t.getD 8 undef = .int .i64 i := hF.ground (by kernel_rfl)
      refine valE O rfl (.int .i64 i) ho rfl (fun _ => ?_) (fun _ => ?_) (hk2 _ _ _ ⟨x, a1, b1, F1, hF.put' apt (getD_low hl) (show dstOf b5ops 6 = some 39 by kernel_rfl) rfl, hT, by rw [getD_setNe (getD_low hl) (by decide)]; exact hD⟩)
      · simp [go_sem, execOp, Act.eval, *]
      · simp only [execOp, Act.eval, *]; go_simp
    · obtain rfl := Option.some.inj ho2
      clear ho2
      have e0 : t.getD 38 undef = .int .i64 k := hF.get (hr ⟨5, .data⟩ (by simp) rfl) (by kernel_rfl)
      have e1 : t.getD 39 undef = .int .i64 i := hF.get (hr ⟨6, .data⟩ (by simp) rfl) (by kernel_rfl)
      refine valE O rfl (.int .i64 (k + i : Nat)) ho rfl (fun _ => ?_) (fun _ => ?_) (hk2 _ _ _ ⟨x, a1, b1, F1, hF.put' apt (getD_low hl) (show dstOf b5ops 7 = some 40 by kernel_rfl) rfl, hT, by rw [getD_setNe (getD_low hl) (by decide)]; exact hD⟩)
      · simp [go_sem, execOp, Act.eval, *]
      · simp only [execOp, Act.eval, *]; go_simp
    · obtain rfl := Option.some.inj ho2
      clear ho2
      have e0 : t.getD 4 undef = .pointer (some ⟨pb, 0, none⟩) := hF.ground (by kernel_rfl)
      refine readTK hT (.pointer (some ⟨P, 0, none⟩)) ho (by kernel_rfl) rfl (fun u h1 h2 => ?_) fun w2 hT2 => hk2 _ _ _ ⟨x, a1, b1, F1, hF.put' apt (getD_low hl) (show dstOf b5ops 8 = some 41 by kernel_rfl) rfl, hT2, by rw [getD_setNe (getD_low hl) (by decide)]; exact hD⟩
      have hcl := (BwMem.stat h2).cell (hm.pb)
      simp only [execOp, Act.eval, e0]
      go_simp
    · obtain rfl := Option.some.inj ho2
      clear ho2
      have e0 : t.getD 41 undef = .pointer (some ⟨P, 0, none⟩) := hF.get (hr ⟨8, .data⟩ (by simp) rfl) (by kernel_rfl)
      refine valE O rfl (.pointer (some ⟨P, 0, none⟩)) ho rfl (fun _ => ?_) (fun _ => ?_) (hk2 _ _ _ ⟨x, a1, b1, F1, hF.put' apt (getD_low hl) (show dstOf b5ops 9 = some 42 by kernel_rfl) rfl, hT, by rw [getD_setNe (getD_low hl) (by decide)]; exact hD⟩)
      · simp [go_sem, execOp, Act.eval, *]
      · simp only [execOp, Act.eval, *]; go_simp
    · obtain rfl := Option.some.inj ho2
      clear ho2
      have e0 : t.getD 42 undef = .pointer (some ⟨P, 0, none⟩) := hF.get (hr ⟨9, .data⟩ (by simp) rfl) (by kernel_rfl)
      refine valE O rfl (.pointer (some ⟨P, 2, none⟩)) ho rfl (fun _ => ?_) (fun _ => ?_) (hk2 _ _ _ ⟨x, a1, b1, F1, hF.put' apt (getD_low hl) (show dstOf b5ops 10 = some 43 by kernel_rfl) rfl, hT, by rw [getD_setNe (getD_low hl) (by decide)]; exact hD⟩)
      · simp [go_sem, execOp, Act.eval, *]
      · simp only [execOp, Act.eval, *]; go_simp
    · obtain rfl := Option.some.inj ho2
      clear ho2
      have e0 : t.getD 43 undef = .pointer (some ⟨P, 2, none⟩) := hF.get (hr ⟨10, .data⟩ (by simp) rfl) (by kernel_rfl)
      refine readTK hT (.int .i64 N) ho (by kernel_rfl) rfl (fun u h1 h2 => ?_) fun w2 hT2 => hk2 _ _ _ ⟨x, a1, b1, F1, hF.put' apt (getD_low hl) (show dstOf b5ops 11 = some 44 by kernel_rfl) rfl, hT2, by rw [getD_setNe (getD_low hl) (by decide)]; exact hD⟩
      have hcl := (BwMem.stat h2).cell (hm.p2)
      simp only [execOp, Act.eval, e0]
      go_simp
    · obtain rfl := Option.some.inj ho2
      clear ho2
      have e0 : t.getD 40 undef = .int .i64 (k + i : Nat) := hF.get (hr ⟨7, .data⟩ (by simp) rfl) (by kernel_rfl)
      have e1 : t.getD 44 undef = .int .i64 N := hF.get (hr ⟨11, .data⟩ (by simp) rfl) (by kernel_rfl)
      refine valE O rfl (.int .i64 ((k + i) % N : Nat)) ho rfl (fun _ => ?_) (fun _ => ?_) (hk2 _ _ _ ⟨x, a1, b1, F1, hF.put' apt (getD_low hl) (show dstOf b5ops 12 = some 45 by kernel_rfl) rfl, hT, by rw [getD_setNe (getD_low hl) (by decide)]; exact hD⟩)
      · simp [go_sem, execOp, Act.eval, *]
      · simp only [execOp, Act.eval, *]; go_simp
    · obtain rfl := Option.some.inj ho2
      clear ho2
      have e0 : t.getD 9 undef = .int .u64 v := hF.ground (by kernel_rfl)
      refine valE O rfl (.int .u64 v) ho rfl (fun _ => ?_) (fun _ => ?_) (hk2 _ _ _ ⟨x, a1, b1, F1, hF.put' apt (getD_low hl) (show dstOf b5ops 13 = some 46 by kernel_rfl) rfl, hT, by rw [getD_setNe (getD_low hl) (by decide)]; exact hD⟩)
      · simp [go_sem, execOp, Act.eval, *]
      · simp only [execOp, Act.eval, *]; go_simp
    · obtain rfl := Option.some.inj ho2
      clear ho2
      have e0 : t.getD 36 undef = .pointer (some ⟨T, 0, none⟩) := hF.get (hr ⟨3, .data⟩ (by simp) rfl) (by kernel_rfl)
      have e1 : t.getD 37 undef = seatGate s := hF.get (hr ⟨4, .data⟩ (by simp) rfl) (by kernel_rfl)
      have e2 : t.getD 45 undef = .int .i64 ((k + i) % N : Nat) := hF.get (hr ⟨12, .data⟩ (by simp) rfl) (by kernel_rfl)
      have e3 : t.getD 46 undef = .int .u64 v := hF.get (hr ⟨13, .data⟩ (by simp) rfl) (by kernel_rfl)
      rw [getD_false hl, if_neg (by decide)] at hD
      obtain ⟨rfl, rfl, rfl⟩ := hD
      refine callE O rfl (f := 19) (vals := #[.pointer (some ⟨T, 0, none⟩), seatGate s, .int .i64 ((k + i) % N : Nat), .int .u64 v]) ho rfl rfl Try.func19 rfl rfl (by simp only [List.map_cons, List.map_nil, Act.eval, e0, e1, e2, e3]) ?_
      refine add_tg (ti := k) (Nat.mod_lt _ hN) rfl hT fun m2 a2 b2 x2 w2 hx2 h2 => ?_
      exact hk2 _ _ _ ⟨x2, a2, b2, _, (hF.congr (b5_cong (hsz.trans hs20) hcl (getD_false hl))).put' apt (getD_low hl) (show dstOf b5ops 14 = some 47 by kernel_rfl) rfl, h2, by rw [getD_setEq (getD_low hl), if_pos rfl]; rfl⟩
    · obtain rfl := Option.some.inj ho2
      clear ho2
      have e0 : t.getD 47 undef = .tuple #[.int .u64 x, .int .i64 0] := hF.get (hr ⟨14, .data⟩ (by simp) rfl) (by kernel_rfl)
      refine valE O rfl (.tuple #[.int .u64 x, .int .i64 0]) ho rfl (fun _ => ?_) (fun _ => ?_) (hk2 _ _ _ ⟨x, a1, b1, F1, hF.put' apt (getD_low hl) (show dstOf b5ops 15 = some 32 by kernel_rfl) rfl, hT, by rw [getD_setNe (getD_low hl) (by decide)]; exact hD⟩)
      · simp [go_sem, execOp, Act.eval, *]
      · simp only [execOp, Act.eval, *]; go_simp
    · obtain rfl := Option.some.inj ho2
      clear ho2
      have e0 : t.getD 32 undef = .tuple #[.int .u64 x, .int .i64 0] := hF.get (hr ⟨15, .data⟩ (by simp) rfl) (by kernel_rfl)
      refine valE O rfl (.int .u64 x) ho rfl (fun _ => ?_) (fun _ => ?_) (hk2 _ _ _ ⟨x, a1, b1, F1, hF.put' apt (getD_low hl) (show dstOf b5ops 16 = some 48 by kernel_rfl) rfl, hT, by rw [getD_setNe (getD_low hl) (by decide)]; exact hD⟩)
      · simp [go_sem, execOp, Act.eval, *]
      · simp only [execOp, Act.eval, *]; go_simp
    · obtain rfl := Option.some.inj ho2
      clear ho2
      have e0 : t.getD 32 undef = .tuple #[.int .u64 x, .int .i64 0] := hF.get (hr ⟨15, .data⟩ (by simp) rfl) (by kernel_rfl)
      refine valE O rfl (.int .i64 0) ho rfl (fun _ => ?_) (fun _ => ?_) (hk2 _ _ _ ⟨x, a1, b1, F1, hF.put' apt (getD_low hl) (show dstOf b5ops 17 = some 49 by kernel_rfl) rfl, hT, by rw [getD_setNe (getD_low hl) (by decide)]; exact hD⟩)
      · simp [go_sem, execOp, Act.eval, *]
      · simp only [execOp, Act.eval, *]; go_simp
    · obtain rfl := Option.some.inj ho2
      clear ho2
      have e0 : t.getD 48 undef = .int .u64 x := hF.get (hr ⟨16, .data⟩ (by simp) rfl) (by kernel_rfl)
      refine valE O rfl (.int .u64 x) ho rfl (fun _ => ?_) (fun _ => ?_) (hk2 _ _ _ ⟨x, a1, b1, F1, hF.put' apt (getD_low hl) (show dstOf b5ops 18 = some 10 by kernel_rfl) rfl, hT, by rw [getD_setNe (getD_low hl) (by decide)]; exact hD⟩)
      · simp [go_sem, execOp, Act.eval, *]
      · simp only [execOp, Act.eval, *]; go_simp
    · obtain rfl := Option.some.inj ho2
      clear ho2
      have e0 : t.getD 49 undef = .int .i64 0 := hF.get (hr ⟨17, .data⟩ (by simp) rfl) (by kernel_rfl)
      refine valE O rfl (.int .i64 0) ho rfl (fun _ => ?_) (fun _ => ?_) (hk2 _ _ _ ⟨x, a1, b1, F1, hF.put' apt (getD_low hl) (show dstOf b5ops 19 = some 11 by kernel_rfl) rfl, hT, by rw [getD_setNe (getD_low hl) (by decide)]; exact hD⟩)
      · simp [go_sem, execOp, Act.eval, *]
      · simp only [execOp, Act.eval, *]; go_simp
  · intro listed n' t w' hsz hall ⟨x, a1, b1, F1, hF, hT, hD⟩
    rw [if_pos (by
      have := hall 14 (by rw [hs20]; decide)
      rw [Array.getD_eq_getD_getElem?] at this ⊢
      cases e : listed[14]? with
      | none => have := Array.getElem?_eq_none_iff.1 e; omega
      | some b => rw [e] at this; exact this)] at hD
    subst hD
    have := hF.all apt hsz hall
    rw [this, hs20]
    exact cpsR_nil O (hq _ a1 b1 x _ hT)
end
end Go.Proofs.Ytdedmmjmiakidaa
/- Plain words: one of TallyBetween's counting threads, from its start to its end. No condition. -/
namespace Go.Proofs.Ytdedmmjmiakidaa
open Go.Conc Go.RowKit
section
variable {B T A H N m : Nat} {rows : List (List Nat)} {old : Old} {bb eb ob : Nat} {rb pb P R rc : Nat} {kb : Nat → Nat} {ea : Nat → Option Addr} {ec : Nat → Nat} {k : Nat}
set_option maxRecDepth 100000 in
theorem fr_b5 {rb pb bb eb ob : Nat} {kb : Nat → Nat} (P T N : Nat) (s : SV) (k i v x : Nat) (f g : Nat → Value) (hg : g = asFun (allPut b5ops #[seatGate s, .pointer (some ⟨rb, 0, none⟩), .pointer (some ⟨kb k, 0, none⟩), .pointer (some ⟨bb, 0, none⟩), .pointer (some ⟨pb, 0, none⟩), .pointer (some ⟨eb, 0, none⟩), .pointer (some ⟨ob, 0, none⟩), f 7, .int .i64 i, .int .u64 v, f 10, f 11, f 12, f 13, f 14, f 15, f 16, f 17, f 18, f 19, f 20, f 21, f 22, f 23, f 24, f 25, f 26, f 27, f 28, f 29, f 30, f 31, f 32, f 33, f 34, f 35, f 36, f 37, f 38, f 39, f 40, f 41, f 42, f 43, f 44, f 45, f 46, f 47, f 48, f 49, f 50, f 51, f 52, f 53, f 54, f 55, f 56, f 57] (b5v P T N s k i v x) 20)) : allPut b5ops #[seatGate s, .pointer (some ⟨rb, 0, none⟩), .pointer (some ⟨kb k, 0, none⟩), .pointer (some ⟨bb, 0, none⟩), .pointer (some ⟨pb, 0, none⟩), .pointer (some ⟨eb, 0, none⟩), .pointer (some ⟨ob, 0, none⟩), f 7, .int .i64 i, .int .u64 v, f 10, f 11, f 12, f 13, f 14, f 15, f 16, f 17, f 18, f 19, f 20, f 21, f 22, f 23, f 24, f 25, f 26, f 27, f 28, f 29, f 30, f 31, f 32, f 33, f 34, f 35, f 36, f 37, f 38, f 39, f 40, f 41, f 42, f 43, f 44, f 45, f 46, f 47, f 48, f 49, f 50, f 51, f 52, f 53, f 54, f 55, f 56, f 57] (b5v P T N s k i v x) 20 = #[seatGate s, .pointer (some ⟨rb, 0, none⟩), .pointer (some ⟨kb k, 0, none⟩), .pointer (some ⟨bb, 0, none⟩), .pointer (some ⟨pb, 0, none⟩), .pointer (some ⟨eb, 0, none⟩), .pointer (some ⟨ob, 0, none⟩), g 7, .int .i64 i, .int .u64 v, .int .u64 x, .int .i64 0, g 12, g 13, g 14, g 15, g 16, g 17, g 18, g 19, g 20, g 21, g 22, g 23, g 24, g 25, g 26, g 27, g 28, g 29, g 30, g 31, g 32, g 33, g 34, g 35, g 36, g 37, g 38, g 39, g 40, g 41, g 42, g 43, g 44, g 45, g 46, g 47, g 48, g 49, g 50, g 51, g 52, g 53, g 54, g 55, g 56, g 57] := by
  subst hg
  kernel_rfl
theorem TK.cong {J : Job} {K : Client J} {Wg ti : Nat} {s : SV} {n : TIx K} {a : J.St} {b : K.All} {F F' : (J.St × K.B) × Option (J.Pos × K.C)} {w : World} (h : TK K Wg s ti n a b F w) (e : F = F') : TK K Wg s ti n a b F' w := e ▸ h
theorem bw_begin {k i : Nat} {β : BwB} (hk : k < m) (hi : i < (rowOf rows k).length) : bwNext rows N m k i β = ({ β with begun := w64 (β.begun + bv rows k i) }, some (TPos.add ((k + i) % N) (bv rows k i), (k, i, 0))) := by
  unfold bwNext
  rw [if_pos hk, if_pos hi]
theorem bw_stop {k i : Nat} {β : BwB} (hk : k < m) (hi : ¬ i < (rowOf rows k).length) : bwNext rows N m k i β = (β, none) := by
  unfold bwNext
  rw [if_pos hk, if_neg hi]
set_option maxRecDepth 100000 in
set_option maxHeartbeats 8000000 in
/-- A counting thread. -/
theorem bw_thr (hm : BwOld old rb pb P R rc T N m kb rows ea ec) (hN : 0 < N) (hN64 : N ≤ 64) (hk : k < m) (h16 : m ≤ 16) (hrl : ∀ k, (rowOf rows k).length ≤ 900) (hvl : ∀ k i, (rowOf rows k).getD i 0 < 18446744073709551616) {g0 : Priv} :
    ThrC (bwK B T A H N m rows old bb eb ob).core k g0 42 #[.pointer (some ⟨rb, 0, none⟩), .pointer (some ⟨kb k, 0, none⟩), .pointer (some ⟨bb, 0, none⟩), .pointer (some ⟨pb, 0, none⟩), .pointer (some ⟨eb, 0, none⟩), .pointer (some ⟨ob, 0, none⟩)] (fun σ => ((σ.1, (bwNext rows N m k 0 σ.2).1), (bwNext rows N m k 0 σ.2).2)) where
  fn := ⟨_, _, Try.func42, by kernel_rfl, rfl⟩
  tid := fun a p h => by
    have h : (bwNext rows N m k 0 a.2).2 = some p := h
    unfold bwNext at h
    rw [if_pos hk] at h
    split at h
    · obtain rfl := Option.some.inj h; rfl
    · cases h
  run := fun Wg s θ n1 w a o E hs ho hSh hw hr hg hE => by
    obtain ⟨⟨a, β⟩, γ⟩ := a
    have O := envT_ok (bwK B T A H N m rows old bb eb ob).core.spec Wg (WgL Wg) s
    have h : TK (bwK B T A H N m rows old bb eb ob) Wg s k (n1, E, θ) a (β, γ) ((a, (bwNext rows N m k 0 β).1), (bwNext rows N m k 0 β).2) w := ⟨hs, ho, hSh, hw, o, hr, hE⟩
    clear hs ho hSh hw hr hE
    refine cpsC_body O Try.func42 rfl ?_
    simp only [Try.ntmps42]
    refine cps_opaque fun Q' hQ => ?_
    walk_nrm
    repeat refine cps_seq O ?_
    (refine cps_region O ?_; simp only [List.size_toArray, List.length_cons, List.length_nil, Nat.reduceAdd, Nat.zero_add, List.range, List.range.loop])
    refine valE O rfl (.int .i64 0) rfl rfl (fun _ => by simp [go_sem]) (fun _ => by go_simp; try (first | rfl | (simp [*]))) ?_; try walk_nrm
    refine cpsR_nil O ?_
    show cps _ _ _ _ _ _
    refine cps_block O ?_
    have hrk := hrl k
    refine cps_loopm O (fun m' n' t w' => ∃ (i : Nat) (a' : TSt) (b' : BwB) (γ' : Nat → Priv), m' + i = (rowOf rows k).length ∧ TK (bwK B T A H N m rows old bb eb ob) Wg s k n' a' (b', γ') ((a', (bwNext rows N m k i b').1), (bwNext rows N m k i b').2) w' ∧ ∃ f : Nat → Value, t = #[seatGate s, .pointer (some ⟨rb, 0, none⟩), .pointer (some ⟨kb k, 0, none⟩), .pointer (some ⟨bb, 0, none⟩), .pointer (some ⟨pb, 0, none⟩), .pointer (some ⟨eb, 0, none⟩), .pointer (some ⟨ob, 0, none⟩), f 7, .int .i64 i, f 9, f 10, f 11, f 12, f 13, f 14, f 15, f 16, f 17, f 18, f 19, f 20, f 21, f 22, f 23, f 24, f 25, f 26, f 27, f 28, f 29, f 30, f 31, f 32, f 33, f 34, f 35, f 36, f 37, f 38, f 39, f 40, f 41, f 42, f 43, f 44, f 45, f 46, f 47, f 48, f 49, f 50, f 51, f 52, f 53, f 54, f 55, f 56, f 57]) ?_ (m := (rowOf rows k).length) ⟨0, a, β, γ, rfl, h, fun _ => undef, rfl⟩
    clear h
    rintro m' n' t w' ⟨i, a', β', γ', hmi, h, f, rfl⟩
    have k0 : (0 : Int) ≤ (k : Int) := by omega
    have k1 : (k : Int) < (m : Int) := by omega
    repeat refine cps_seq O ?_
    (refine cps_region O ?_; simp only [List.size_toArray, List.length_cons, List.length_nil, Nat.reduceAdd, Nat.zero_add, List.range, List.range.loop])
    refine valE O rfl (.int .i64 i) rfl rfl (fun _ => by simp [go_sem]) (fun _ => by go_simp; try (first | rfl | (simp [*]))) ?_; try walk_nrm
    refine readTK h (.slice (some ⟨R, 0, none⟩) m rc) rfl (by kernel_rfl) rfl (fun u h1 h2 => by have hcl := (BwMem.stat h2).cell (hm.rb); go_simp) fun _ h => ?_; try walk_nrm
    refine readTK h (.int .i64 k) rfl (by kernel_rfl) rfl (fun u h1 h2 => by have hcl := (BwMem.stat h2).cell (hm.kb k hk); go_simp) fun _ h => ?_; try walk_nrm
    refine readTK h (.pointer (some ⟨R, k, none⟩)) rfl (by kernel_rfl) rfl (fun u _ _ => by go_simp) fun _ h => ?_; try walk_nrm
    refine readTK h (.slice (ea k) (rowOf rows k).length (ec k)) rfl (by kernel_rfl) rfl (fun u h1 h2 => by have hcl := (BwMem.stat h2).cell (hm.rs k hk); go_simp) fun _ h => ?_; try walk_nrm
    refine valE O rfl (.int .i64 (rowOf rows k).length) rfl rfl (fun _ => by simp [go_sem]) (fun _ => by go_simp; try (first | rfl | (simp [*]))) ?_; try walk_nrm
    by_cases hi : i < (rowOf rows k).length
    · have i1 : (i : Int) < ((rowOf rows k).length : Int) := by omega
      refine valE O rfl (.bool true) rfl rfl (fun _ => by simp [go_sem]) (fun _ => by go_simp; try (first | rfl | (simp [*]))) ?_; try walk_nrm
      refine cpsR_nil O ?_
      show cps _ _ _ _ _ _
      refine cps_cond O (v := true) rfl ?_
      simp only [if_true]
      refine cps_skip O ?_
      show cps _ _ _ _ _ _
      repeat refine cps_seq O ?_
      refine cps_block O ?_
      refine cps_seq O ?_
      obtain ⟨lb, lo, hea, hrow⟩ := hm.row k hk i hi
      obtain ⟨z, hz⟩ : ∃ z, z = (rowOf rows k).getD i 0 := ⟨_, rfl⟩
      obtain ⟨v, hv⟩ : ∃ v, v = bv rows k i := ⟨_, rfl⟩
      have hzl : z < 18446744073709551616 := by rw [hz]; exact hvl k i
      have hvz : v = z % 1099511627776 := by rw [hv, hz]; rfl
      have hv64 : v < 18446744073709551616 := by omega
      have hrm : (z : Int).tmod 1099511627776 = (v : Int) := by rw [hvz, Int.tmod_eq_emod_of_nonneg (by omega)]; rfl
      rw [← hz] at hrow
      rw [bw_begin hk hi, ← hv] at h
      have HV := Lib.hid hv
      clear hz hv hvz
      have i0 : (0 : Int) ≤ (i : Int) := by omega
      have hrs : old.cell ⟨R, k, none⟩ (.slice (some ⟨lb, lo, none⟩) (rowOf rows k).length (ec k)) := by rw [← hea]; exact hm.rs k hk
      (refine cps_region O ?_; simp only [List.size_toArray, List.length_cons, List.length_nil, Nat.reduceAdd, Nat.zero_add, List.range, List.range.loop])
      refine readTK h (.slice (some ⟨R, 0, none⟩) m rc) rfl (by kernel_rfl) rfl (fun u h1 h2 => by have hcl := (BwMem.stat h2).cell (hm.rb); go_simp) fun _ h => ?_; try walk_nrm
      refine readTK h (.int .i64 k) rfl (by kernel_rfl) rfl (fun u h1 h2 => by have hcl := (BwMem.stat h2).cell (hm.kb k hk); go_simp) fun _ h => ?_; try walk_nrm
      refine readTK h (.pointer (some ⟨R, k, none⟩)) rfl (by kernel_rfl) rfl (fun u _ _ => by go_simp) fun _ h => ?_; try walk_nrm
      refine readTK h (.slice (some ⟨lb, lo, none⟩) (rowOf rows k).length (ec k)) rfl (by kernel_rfl) rfl (fun u h1 h2 => by have hcl := (BwMem.stat h2).cell (hrs); go_simp) fun _ h => ?_; try walk_nrm
      refine valE O rfl (.int .i64 i) rfl rfl (fun _ => by simp [go_sem]) (fun _ => by go_simp; try (first | rfl | (simp [*]))) ?_; try walk_nrm
      refine readTK h (.pointer (some ⟨lb, lo + i, none⟩)) rfl (by kernel_rfl) rfl (fun u _ _ => by go_simp) fun _ h => ?_; try walk_nrm
      refine readTK h (.int .u64 z) rfl (by kernel_rfl) rfl (fun u h1 h2 => by have hcl := (BwMem.stat h2).cell (hrow); go_simp) fun _ h => ?_; try walk_nrm
      refine valE O rfl (.int .u64 v) rfl rfl (fun _ => by simp [go_sem]) (fun _ => by go_simp; try (first | rfl | (simp [*]))) ?_; try walk_nrm
      refine valE O rfl (.int .u64 v) rfl rfl (fun _ => by simp [go_sem]) (fun _ => by go_simp; try (first | rfl | (simp [*]))) ?_; try walk_nrm
      refine cpsR_nil O ?_
      show cps _ _ _ _ _ _
      refine cps_seq O ?_
      (refine cps_region O ?_; simp only [List.size_toArray, List.length_cons, List.length_nil, Nat.reduceAdd, Nat.zero_add, List.range, List.range.loop])
      refine readTK h (.int .u64 (β'.begun : Nat)) rfl (by kernel_rfl) rfl (fun u h1 h2 => by have hcl := (BwMem.rb h2).cell 0; go_simp) fun _ h => ?_; try walk_nrm
      refine valE O rfl (.int .u64 v) rfl rfl (fun _ => by simp [go_sem]) (fun _ => by go_simp; try (first | rfl | (simp [*]))) ?_; try walk_nrm
      have hw1 : IntKind.u64.wrap ((β'.begun : Int) + (v : Int)) = ((w64 (β'.begun + v) : Nat) : Int) := by
        show ((β'.begun : Int) + (v : Int)) % 18446744073709551616 = _
        unfold w64; omega
      refine valE O rfl (.int .u64 (w64 (β'.begun + v) : Nat)) rfl rfl (fun _ => by simp [go_sem]) (fun _ => by go_simp; try (first | rfl | (simp [*]))) ?_; try walk_nrm
      refine opT h undef a' ({ β' with begun := w64 (β'.begun + v) }, γ') rfl (by kernel_rfl) rfl (fun u h1 h2 h3 => ⟨u.setCell ⟨bb, 0, none⟩ (.int .u64 (w64 (β'.begun + v) : Nat)), .inr ⟨?_, rfl⟩, ?_⟩) fun w2 h => ?_
      · have hc := (BwMem.rb h2).cell 0
        have hf := (BwMem.rb h2).free 0
        go_simp
      · have hne := BwMem.ne h2
        exact bw_mv h1 h2 h3 ((Sm.refl (fun x => x = bb ∨ x = eb ∨ x = ob) _).setCell (.inl rfl) _) ((BwMem.rb h2).set 0 _) ((BwMem.re h2).set_ne hne.1 _) ((BwMem.ro h2).set_ne hne.2.1 _) ⟨Nat.mod_lt _ (by decide), (BwMem.lt h2).2⟩
      try walk_nrm
      refine cpsR_nil O ?_
      show cps _ _ _ _ _ _
      clear hw1 hrm hrow hrs
      refine cps_seq O ?_
      refine cps_as fun t1 ht1 => ?_
      have e1 : t1 = #[seatGate s, .pointer (some ⟨rb, 0, none⟩), .pointer (some ⟨kb k, 0, none⟩), .pointer (some ⟨bb, 0, none⟩), .pointer (some ⟨pb, 0, none⟩), .pointer (some ⟨eb, 0, none⟩), .pointer (some ⟨ob, 0, none⟩), (asFun t1) 7, .int .i64 i, .int .u64 v, (asFun t1) 10, (asFun t1) 11, (asFun t1) 12, (asFun t1) 13, (asFun t1) 14, (asFun t1) 15, (asFun t1) 16, (asFun t1) 17, (asFun t1) 18, (asFun t1) 19, (asFun t1) 20, (asFun t1) 21, (asFun t1) 22, (asFun t1) 23, (asFun t1) 24, (asFun t1) 25, (asFun t1) 26, (asFun t1) 27, (asFun t1) 28, (asFun t1) 29, (asFun t1) 30, (asFun t1) 31, (asFun t1) 32, (asFun t1) 33, (asFun t1) 34, (asFun t1) 35, (asFun t1) 36, (asFun t1) 37, (asFun t1) 38, (asFun t1) 39, (asFun t1) 40, (asFun t1) 41, (asFun t1) 42, (asFun t1) 43, (asFun t1) 44, (asFun t1) 45, (asFun t1) 46, (asFun t1) 47, (asFun t1) 48, (asFun t1) 49, (asFun t1) 50, (asFun t1) 51, (asFun t1) 52, (asFun t1) 53, (asFun t1) 54, (asFun t1) 55, (asFun t1) 56, (asFun t1) 57] := by subst ht1; rfl
      obtain ⟨f1, hf1⟩ : ∃ f1, f1 = asFun t1 := ⟨_, rfl⟩
      rw [← hf1] at e1
      rw [e1]
      clear e1 hf1 ht1
      clear t1
      change cps _ (.region 5 b5ops true) _ _ _ _
      refine b5_reg hm hN hN64 hk h16 (by omega) hv64 h fun n5 a5 b5 x w5 h5 => ?_
      obtain ⟨f2, hf2⟩ : ∃ f2, f2 = asFun (allPut b5ops #[seatGate s, .pointer (some ⟨rb, 0, none⟩), .pointer (some ⟨kb k, 0, none⟩), .pointer (some ⟨bb, 0, none⟩), .pointer (some ⟨pb, 0, none⟩), .pointer (some ⟨eb, 0, none⟩), .pointer (some ⟨ob, 0, none⟩), f1 7, .int .i64 i, .int .u64 v, f1 10, f1 11, f1 12, f1 13, f1 14, f1 15, f1 16, f1 17, f1 18, f1 19, f1 20, f1 21, f1 22, f1 23, f1 24, f1 25, f1 26, f1 27, f1 28, f1 29, f1 30, f1 31, f1 32, f1 33, f1 34, f1 35, f1 36, f1 37, f1 38, f1 39, f1 40, f1 41, f1 42, f1 43, f1 44, f1 45, f1 46, f1 47, f1 48, f1 49, f1 50, f1 51, f1 52, f1 53, f1 54, f1 55, f1 56, f1 57] (b5v P T N s k i v x) 20) := ⟨_, rfl⟩
      rw [fr_b5 P T N s k i v x f1 f2 hf2]
      clear hf2 h
      obtain ⟨β5, γ5⟩ := b5
      have hu5 : bwFin rows N m (k, i, 0) (.num x) (a5, β5) = ((a5, (bwNext rows N m k (i + 1) { β5 with ended := w64 (β5.ended + v) }).1), (bwNext rows N m k (i + 1) { β5 with ended := w64 (β5.ended + v) }).2) := by rw [HV.out]; rfl
      have h5 : TK (bwK B T A H N m rows old bb eb ob) Wg s k n5 a5 (β5, γ5) ((a5, (bwNext rows N m k (i + 1) { β5 with ended := w64 (β5.ended + v) }).1), (bwNext rows N m k (i + 1) { β5 with ended := w64 (β5.ended + v) }).2) w5 := TK.cong h5 hu5
      clear hu5
      show cps _ _ _ _ _ _
      refine cps_seq O ?_
      (refine cps_region O ?_; simp only [List.size_toArray, List.length_cons, List.length_nil, Nat.reduceAdd, Nat.zero_add, List.range, List.range.loop])
      refine readTK h5 (.int .u64 (β5.ended : Nat)) rfl (by kernel_rfl) rfl (fun u h1 h2 => by have hcl := (BwMem.re h2).cell 0; go_simp) fun _ h5 => ?_; try walk_nrm
      refine valE O rfl (.int .u64 v) rfl rfl (fun _ => by simp [go_sem]) (fun _ => by go_simp; try (first | rfl | (simp [*]))) ?_; try walk_nrm
      have hw1 : IntKind.u64.wrap ((β5.ended : Int) + (v : Int)) = ((w64 (β5.ended + v) : Nat) : Int) := by
        show ((β5.ended : Int) + (v : Int)) % 18446744073709551616 = _
        unfold w64; omega
      refine valE O rfl (.int .u64 (w64 (β5.ended + v) : Nat)) rfl rfl (fun _ => by simp [go_sem]) (fun _ => by go_simp; try (first | rfl | (simp [*]))) ?_; try walk_nrm
      refine opT h5 undef a5 ({ β5 with ended := w64 (β5.ended + v) }, γ5) rfl (by kernel_rfl) rfl (fun u h1 h2 h3 => ⟨u.setCell ⟨eb, 0, none⟩ (.int .u64 (w64 (β5.ended + v) : Nat)), .inr ⟨?_, rfl⟩, ?_⟩) fun w6 h6 => ?_
      · have hc := (BwMem.re h2).cell 0
        have hf := (BwMem.re h2).free 0
        go_simp
      · have hne := BwMem.ne h2
        exact bw_mv h1 h2 h3 ((Sm.refl (fun x => x = bb ∨ x = eb ∨ x = ob) _).setCell (.inr (.inl rfl)) _) ((BwMem.rb h2).set_ne (fun e => hne.1 e.symm) _) ((BwMem.re h2).set 0 _) ((BwMem.ro h2).set_ne hne.2.2 _) ⟨(BwMem.lt h2).1, Nat.mod_lt _ (by decide)⟩
      try walk_nrm
      refine cpsR_nil O ?_
      show cps _ _ _ _ _ _
      clear h5 hw1
      obtain ⟨β6, hβ6⟩ : ∃ β6 : BwB, β6 = { β5 with ended := w64 (β5.ended + v) } := ⟨_, rfl⟩
      rw [← hβ6] at h6
      clear hβ6
      have HI := Lib.hid (And.intro hi (And.intro hmi hrk))
      refine aloneTK h6 (by kernel_rfl) fun u h1 h2 h3 => ?_
      have h2 : BwMem old bb eb ob β6 (γ5 m) u := h2
      have hc := h2.ro.cell 0
      have hf := h2.ro.free 0
      have hne := h2.ne
      have Hmv := Lib.hid (bw_mv (B := B) (rows := rows) (ti := k) (β' := β6) h1 h2 h3 ((Sm.refl (fun x => x = bb ∨ x = eb ∨ x = ob) _).setCell (.inr (.inr rfl)) (.bool β6.ok) : Sm _ u (u.setCell ⟨ob, 0, none⟩ (.bool β6.ok))) (h2.rb.set_ne (fun e => hne.2.1 e.symm) _) (h2.re.set_ne (fun e => hne.2.2 e.symm) _) (h2.ro.set 0 _) h2.lt)
      clear h1 h2 h3 hne hi hmi hrk hea hzl hv64 i1 i0 k0 k1
      cases hok : β6.ok
      all_goals
        rw [hok] at hc Hmv
        go_wp2
        refine ⟨rfl, a5, β6, γ5, Hmv.out, fun w7 h7 => ?_⟩
        obtain ⟨hi, hmi, hrk⟩ := HI.out
        clear Hmv hc hf h6
        show cps _ _ _ _ _ _
        have hp : IntKind.i64.wrap ((i : Int) + 1) = ((i + 1 : Nat) : Int) := by rw [IntKind.wrap_i64]; omega
        (refine cps_region O ?_; simp only [List.size_toArray, List.length_cons, List.length_nil, Nat.reduceAdd, Nat.zero_add, List.range, List.range.loop])
        refine valE O rfl (.int .i64 i) rfl rfl (fun _ => by simp [go_sem]) (fun _ => by go_simp; try (first | rfl | (simp [*]))) ?_; try walk_nrm
        refine valE O rfl (.int .i64 (i + 1 : Nat)) rfl rfl (fun _ => by simp [go_sem]) (fun _ => by go_simp; try (first | rfl | (simp [*]))) ?_; try walk_nrm
        refine valE O rfl (.int .i64 (i + 1 : Nat)) rfl rfl (fun _ => by simp [go_sem]) (fun _ => by go_simp; try (first | rfl | (simp [*]))) ?_; try walk_nrm
        refine cpsR_nil O ?_
        exact ⟨m' - 1, by omega, i + 1, by omega, ⟨a5, β6, γ5, h7⟩, ex_fun (φ := fun f => #[seatGate s, .pointer (some ⟨rb, 0, none⟩), .pointer (some ⟨kb k, 0, none⟩), .pointer (some ⟨bb, 0, none⟩), .pointer (some ⟨pb, 0, none⟩), .pointer (some ⟨eb, 0, none⟩), .pointer (some ⟨ob, 0, none⟩), f 7, .int .i64 (i + 1 : Nat), f 9, f 10, f 11, f 12, f 13, f 14, f 15, f 16, f 17, f 18, f 19, f 20, f 21, f 22, f 23, f 24, f 25, f 26, f 27, f 28, f 29, f 30, f 31, f 32, f 33, f 34, f 35, f 36, f 37, f 38, f 39, f 40, f 41, f 42, f 43, f 44, f 45, f 46, f 47, f 48, f 49, f 50, f 51, f 52, f 53, f 54, f 55, f 56, f 57]) rfl⟩
    · have i1 : ¬ (i : Int) < ((rowOf rows k).length : Int) := by omega
      refine valE O rfl (.bool false) rfl rfl (fun _ => by simp [go_sem]) (fun _ => by go_simp; try (first | rfl | (simp [*]))) ?_; try walk_nrm
      clear i1
      refine cpsR_nil O ?_
      show cps _ _ _ _ _ _
      refine cps_cond O (v := false) rfl ?_
      simp only [Bool.false_eq_true, if_false]
      refine cps_exit O ?_
      rw [bw_stop hk hi] at h
      exact hQ _ _ _ _ ⟨.inl rfl, .tuple #[], ret0E O rfl rfl, h.done⟩
end
end Go.Proofs.Ytdedmmjmiakidaa
/- Plain words: a sum that is asked while others count: the shards one by one, into a buffer of the call's own. No condition. -/
namespace Go.Proofs.Ytdedmmjmiakidaa
open Go.Conc Go.RowKit
section
variable {B T A H N m : Nat} {rows : List (List Nat)} {old : Old} {bb eb ob : Nat} {Wg : Nat} {s : SV}
/-- The buffer when L is read. -/
def bufC (N : Nat) (L : List Nat) : Array Value := uw (L ++ List.replicate (N - L.length) 0)
theorem buf_zero : bufC N [] = uw (List.replicate N 0) := by simp [bufC]
theorem buf_all {L : List Nat} (h : L.length = N) : bufC N L = uw L := by simp [bufC, h]
theorem buf_size {L : List Nat} (h : L.length ≤ N) : (bufC N L).size = N := by simp [bufC, uw]; omega
theorem buf_set {L : List Nat} {x : Nat} (h : L.length < N) : (bufC N L).setIfInBounds L.length (.int .u64 (x : Int)) = bufC N (L ++ [x]) := by
  unfold bufC
  rw [uw_set]
  congr 1
  rw [List.set_append_right _ _ (Nat.le_refl _), Nat.sub_self, List.length_append, List.length_singleton, show N - L.length = (N - (L.length + 1)) + 1 from by omega, List.replicate_succ, List.set_cons_zero, List.append_assoc]
  rfl
noncomputable def bufP (g N : Nat) (L : List Nat) : Priv := onePriv g (.cells (bufC N L) 23 (0, 0))
theorem buf_real {L : List Nat} (hN : 0 < N) (h : L.length ≤ N) : RealO (.cells (bufC N L) 23 (0, 0)) :=
  ⟨fun _ _ _ _ _ _ e => (by cases e), fun T e => by
    have e := (Obj.cells.inj e).1
    have := buf_size (N := N) h
    rw [e] at this
    simp at this
    omega⟩
theorem buf_row {a : TSt} {g : Nat} {L : List Nat} {u : World} (h : PInR (talJob T A H N) a (bufP g N L) u) : Row u g (bufC N L) 23 ∧ ¬ (g = T ∨ g = A ∨ g = H) := by
  obtain ⟨h1, h2, _⟩ := h.on g _ one_at
  exact ⟨h1, h2⟩
/-- What is due when L is read. -/
def pd (N : Nat) (L : List Nat) (a : TSt) : TSt × (TPos ⊕ TRes) := (a, if L.length < N then .inl (.part L.length L) else .inr (.list L))
theorem AtT.cong {J : Job} {K : Client J} {Wg : Nat} {s : SV} {c : K.C} {pg : K.Pg} {n : K.Ix} {k : Nat} {a : J.St} {d d' : J.St × (J.Pos ⊕ J.Res)} {w : World} (h : AtT K Wg s c pg n k a d w) (e : d = d') : AtT K Wg s c pg n k a d' w := e ▸ h
theorem pd_lt {L : List Nat} {a : TSt} (h : L.length < N) : pd N L a = (a, .inl (.part L.length L)) := by unfold pd; rw [if_pos h]
theorem pd_ge {L : List Nat} {a : TSt} (h : ¬ L.length < N) : pd N L a = (a, .inr (.list L)) := by unfold pd; rw [if_neg h]
theorem pd_step {L : List Nat} {a : TSt} (h : a.s.length = N) : TPos.exec (.part L.length L) a = pd N (L ++ [a.s.getD L.length 0]) a := by
  show (a, if L.length + 1 < a.s.length then _ else _) = _
  unfold pd
  rw [h, List.length_append, List.length_singleton]
theorem at_len {i low : Nat} {l : Priv} {n : (bwK B T A H N m rows old bb eb ob).Ix} {k : Nat} {a : TSt} {d : TSt × (TPos ⊕ TRes)} {w : World} (h : AtT (bwK B T A H N m rows old bb eb ob) Wg s (m, i, low) l n k a d w) : a.s.length = N ∧ (∀ x ∈ a.s, x < 18446744073709551616) ∧ N ≤ 64 := by
  obtain ⟨h1, h2, h3, h4, h5, b, γ, o, h6, _⟩ := h
  have hu := spoil_ps (P := Try.prog) no_steps (real_of h3 h5.kt h5.wg)
  have hr : TRep T A H N a _ := (h6 _ hu).1.1
  exact ⟨hr.len, hr.ls, by rw [← hr.len]; exact hr.tal.le⟩
set_option maxRecDepth 100000 in
set_option maxHeartbeats 8000000 in
theorem parts_t {i low : Nat} {l : Priv} {n : (bwK B T A H N m rows old bb eb ob).Ix} {k : Nat} {a : TSt} {w : World} (hN : 0 < N) (h : AtT (bwK B T A H N m rows old bb eb ob) Wg s (m, i, low) l n k a (a, .inl (.part 0 [])) w) {Q : (bwK B T A H N m rows old bb eb ob).Ix → Value → World → Prop}
    (hq : ∀ n' k' (a' : TSt) (L : List Nat) (g : Nat) w', L.length = N → (∀ x ∈ L, x < 18446744073709551616) → AtT (bwK B T A H N m rows old bb eb ob) Wg s (m, i, low) (bufP g N L) n' k' a' (a', .inr (.list L)) w' → Q n' (.tuple #[.slice (some ⟨g, 0, none⟩) N N, .int .i64 0]) w') :
    cpsC (envT (bwK B T A H N m rows old bb eb ob).core.spec Wg (WgL Wg) s) 21 #[.pointer (some ⟨T, 0, none⟩), seatGate s] Q n w := by
  have O := envT_ok (bwK B T A H N m rows old bb eb ob).core.spec Wg (WgL Wg) s
  have hN64 := (at_len h).2.2
  refine cpsC_body O Try.func21 rfl ?_
  simp only [Try.ntmps21]
  refine cps_opaque fun Q' hQ => ?_
  have Hq := Lib.hid hq
  clear hq
  walk_nrm
  repeat refine cps_seq O ?_
  (refine cps_region O ?_; simp only [List.size_toArray, List.length_cons, List.length_nil, Nat.reduceAdd, Nat.zero_add, List.range, List.range.loop])
  refine valE O rfl (.slice none 0 0) rfl rfl (fun _ => by simp [go_sem]) (fun _ => by go_simp; try (first | rfl | (simp [*]))) ?_; try walk_nrm
  refine valE O rfl (.int .i64 0) rfl rfl (fun _ => by simp [go_sem]) (fun _ => by go_simp; try (first | rfl | (simp [*]))) ?_; try walk_nrm
  refine cpsR_nil O ?_
  show cps _ _ _ _ _ _
  refine cps_seq O ?_
  refine cps_seq O ?_
  refine askP h (by kernel_rfl) fun u hu hp => ?_
  have hnn := tnone_c T A a.s u hu.tal
  have Hp := Lib.hid hp
  clear hu hp
  go_wp2_with fail
  refine hnn.mono ?_
  rintro e u1 ⟨rfl, rfl⟩
  go_wp2
  refine ⟨rfl, l, Sm.refl _ _, Hp.out, fun b hb => .inl hb, fun w3 h3 => ?_⟩
  clear hnn Hp h
  show cps _ _ _ _ _ _
  refine cps_cond O (v := false) rfl ?_
  simp only [Bool.false_eq_true, if_false]
  refine cps_skip O ?_
  show cps _ _ _ _ _ _
  refine cps_seq O ?_
  refine askP h3 (by kernel_rfl) fun u hu hp => ?_
  have hc := hu.head
  have hmk := make_u64s N (by omega) u
  have r0 : Row (u.alloc (.cells (uw (List.replicate N 0)) 23 (0, 0))) u.heap.size (uw (List.replicate N 0)) 23 := Row.new u _ _
  have Hs := Lib.hid (show Sm (fun b => l b ≠ none) u (u.alloc (.cells (uw (List.replicate N 0)) 23 (0, 0))) from (Sm.refl _ _).alloc _)
  have Hl := Lib.hid (show PInR (talJob T A H N) a (bufP u.heap.size N []) (u.alloc (.cells (uw (List.replicate N 0)) 23 (0, 0))) from ⟨fun b o hb => by
    obtain ⟨rfl, rfl⟩ := one_some hb
    refine ⟨by rw [buf_zero]; exact r0, fun hf => ?_, buf_real hN (Nat.zero_le _)⟩
    obtain ⟨o, ho, _⟩ := (talJob T A H N).real a u _ hu hf
    have := (Array.getElem?_eq_some_iff.1 ho).1
    omega⟩)
  have Hg := Lib.hid (show ∀ b, bufP u.heap.size N [] b ≠ none → l b ≠ none ∨ u.heap.size ≤ b from fun b hb => .inr (by rw [one_ne hb]; exact Nat.le_refl _))
  clear hu hp r0
  go_wp2
  refine ⟨rfl, _, Hs.out, Hl.out, Hg.out, fun w4 h4 => ?_⟩
  generalize u.heap.size = g at *
  clear Hs Hl Hg hc hmk h3
  show cps _ _ _ _ _ _
  repeat refine cps_seq O ?_
  refine askP h4 (by kernel_rfl) fun u hu hp => ?_
  have hc := hu.head
  have Hp := Lib.hid hp
  clear hu hp
  go_wp2
  refine ⟨rfl, _, Sm.refl _ _, Hp.out, fun b hb => .inl hb, fun w5 h5 => ?_⟩
  clear Hp hc h4
  show cps _ _ _ _ _ _
  refine cps_block O ?_
  refine cps_loopm O (fun m' n' t w' => ∃ (L : List Nat) (k' : Nat) (a' : TSt), m' + L.length = N ∧ (∀ x ∈ L, x < 18446744073709551616) ∧ AtT (bwK B T A H N m rows old bb eb ob) Wg s (m, i, low) (bufP g N L) n' k' a' (pd N L a') w' ∧ ∃ f : Nat → Value, t = #[.pointer (some ⟨T, 0, none⟩), seatGate s, f 2, f 3, .slice none 0 0, .int .i64 0, .slice (some ⟨g, 0, none⟩) N N, f 7, f 8, f 9, f 10, f 11, f 12, f 13, f 14, f 15, f 16, f 17, f 18, f 19, .int .i64 N, .int .i64 L.length, f 22, f 23, f 24, f 25, f 26, f 27, f 28, f 29, f 30, f 31, f 32, f 33, f 34, f 35, f 36, f 37, f 38]) ?_ (m := N) ⟨[], k, a, by simp, by simp, AtT.cong h5 (pd_lt (L := []) (a := a) hN).symm, ex_fun (φ := fun f => #[.pointer (some ⟨T, 0, none⟩), seatGate s, f 2, f 3, .slice none 0 0, .int .i64 0, .slice (some ⟨g, 0, none⟩) N N, f 7, f 8, f 9, f 10, f 11, f 12, f 13, f 14, f 15, f 16, f 17, f 18, f 19, .int .i64 N, .int .i64 0, f 22, f 23, f 24, f 25, f 26, f 27, f 28, f 29, f 30, f 31, f 32, f 33, f 34, f 35, f 36, f 37, f 38]) rfl⟩
  clear h5
  rintro m' n' t w' ⟨L, k', a', hmL, hLv, h, f, rfl⟩
  repeat refine cps_seq O ?_
  (refine cps_region O ?_; simp only [List.size_toArray, List.length_cons, List.length_nil, Nat.reduceAdd, Nat.zero_add, List.range, List.range.loop])
  by_cases hi : L.length < N
  · have i1 : (L.length : Int) < (N : Int) := by omega
    refine valE O rfl (.bool true) rfl rfl (fun _ => by simp [go_sem]) (fun _ => by go_simp; try (first | rfl | (simp [*]))) ?_; try walk_nrm
    refine cpsR_nil O ?_
    show cps _ _ _ _ _ _
    repeat refine cps_seq O ?_
    refine cps_cond O (v := true) rfl ?_
    simp only [if_true]
    refine cps_skip O ?_
    show cps _ _ _ _ _ _
    repeat refine cps_seq O ?_
    refine cps_block O ?_
    refine cps_seq O ?_
    (refine cps_region O ?_; simp only [List.size_toArray, List.length_cons, List.length_nil, Nat.reduceAdd, Nat.zero_add, List.range, List.range.loop])
    refine valE O rfl (.int .i64 L.length) rfl rfl (fun _ => by simp [go_sem]) (fun _ => by go_simp; try (first | rfl | (simp [*]))) ?_; try walk_nrm
    refine valE O rfl (.int .i64 L.length) rfl rfl (fun _ => by simp [go_sem]) (fun _ => by go_simp; try (first | rfl | (simp [*]))) ?_; try walk_nrm
    refine cpsR_nil O ?_
    show cps _ _ _ _ _ _
    refine cps_seq O ?_
    (refine cps_region O ?_; simp only [List.size_toArray, List.length_cons, List.length_nil, Nat.reduceAdd, Nat.zero_add, List.range, List.range.loop])
    refine valE O rfl (seatGate s) rfl rfl (fun _ => by simp [go_sem]) (fun _ => by go_simp; try (first | rfl | (simp [*]))) ?_; try walk_nrm
    refine valE O rfl (.int .i64 L.length) rfl rfl (fun _ => by simp [go_sem]) (fun _ => by go_simp; try (first | rfl | (simp [*]))) ?_; try walk_nrm
    have h := AtT.cong h (pd_lt hi)
    refine callE O rfl (f := 46) (vals := #[seatGate s, .int .u8 1, .int .i64 L.length]) rfl rfl rfl Try.func46 rfl rfl rfl ?_
    refine cpsC.mono (atT_step (K := (bwK B T A H N m rows old bb eb ob)) (p := TPos.part L.length L) h) ?_
    rintro n6 v6 w6 ⟨rfl, k6, a6, hk6, h6⟩
    clear h
    obtain ⟨hl6, hv6, _⟩ := at_len h6
    have h6 : AtT (bwK B T A H N m rows old bb eb ob) Wg s (m, i, low) (bufP g N L) n6 k6 a6 (pd N (L ++ [a6.s.getD L.length 0]) a6) w6 := AtT.cong h6 (pd_step hl6)
    obtain ⟨x, hx⟩ : ∃ x, x = a6.s.getD L.length 0 := ⟨_, rfl⟩
    have hxv : x < 18446744073709551616 := by
      rw [hx, List.getD_eq_getElem?_getD, List.getElem?_eq_getElem (by omega)]
      exact hv6 _ (List.getElem_mem _)
    have h6 := AtT.cong h6 (d' := pd N (L ++ [x]) a6) (by rw [hx])
    try walk_nrm
    refine cpsR_nil O ?_
    show cps _ _ _ _ _ _
    refine askP h6 (by kernel_rfl) fun u hu hp => ?_
    have hc := hu.head
    have hsh := hu.shard hi
    rw [← hx] at hsh
    obtain ⟨hrow, hgf⟩ := buf_row hp
    have hc2 : u.cell? ⟨g, L.length, none⟩ = some (.int .u64 0) := by
      rw [hrow.cell]
      unfold bufC
      rw [uw_get _ _ (by simp; omega)]
      simp [show 0 < N - L.length by omega]
    have hf2 := hrow.free L.length
    have hld := aload ⟨A, L.length, none⟩ x u hsh
    have r1 := hrow.set L.length (.int .u64 (x : Int))
    rw [buf_set hi] at r1
    have hr := Lib.hid (show PInR (talJob T A H N) a6 (bufP g N (L ++ [x])) (u.setCell ⟨g, L.length, none⟩ (.int .u64 (x : Int))) from ⟨fun b o hb => by
      obtain ⟨rfl, rfl⟩ := one_some hb
      exact ⟨r1, hgf, buf_real hN (by simp; omega)⟩⟩)
    have hs := Lib.hid (show Sm (fun b => bufP g N L b ≠ none) u (u.setCell ⟨g, L.length, none⟩ (.int .u64 (x : Int))) from (Sm.refl (fun b => bufP g N L b ≠ none) _).setCell (by show bufP g N L g ≠ none; unfold bufP; rw [one_at]; simp) _)
    have hg := Lib.hid (show ∀ b, bufP g N (L ++ [x]) b ≠ none → bufP g N L b ≠ none ∨ u.heap.size ≤ b from fun b hb => .inl (by rw [one_ne hb]; unfold bufP; rw [one_at]; simp))
    clear hu hp hsh hrow r1 hx hl6 hv6 hgf
    have g3 : (L.length : Int) < (N : Int) := i1
    go_wp2_with fail
    refine hld.mono ?_
    rintro e u1 ⟨rfl, rfl⟩
    go_wp2
    refine ⟨rfl, _, hs.out, hr.out, hg.out, fun w7 h7 => ?_⟩
    clear hs hr hg hc hc2 hf2 hld h6
    show cps _ _ _ _ _ _
    have hp : IntKind.i64.wrap ((L.length : Int) + 1) = ((L.length + 1 : Nat) : Int) := by rw [IntKind.wrap_i64]; omega
    (refine cps_region O ?_; simp only [List.size_toArray, List.length_cons, List.length_nil, Nat.reduceAdd, Nat.zero_add, List.range, List.range.loop])
    refine valE O rfl (.int .i64 (L.length + 1 : Nat)) rfl rfl (fun _ => by simp [go_sem]) (fun _ => by go_simp; try (first | rfl | (simp [*]))) ?_; try walk_nrm
    refine valE O rfl (.int .i64 (L.length + 1 : Nat)) rfl rfl (fun _ => by simp [go_sem]) (fun _ => by go_simp; try (first | rfl | (simp [*]))) ?_; try walk_nrm
    refine cpsR_nil O ?_
    have hL1 : (L ++ [x]).length = L.length + 1 := by simp
    refine ⟨m' - 1, by omega, L ++ [x], k6, a6, by omega, fun y hy => by
      rcases List.mem_append.1 hy with hy | hy
      · exact hLv y hy
      · rw [List.mem_singleton.1 hy]; exact hxv, h7, ?_⟩
    rw [hL1]
    refine ex_fun (φ := fun f => #[.pointer (some ⟨T, 0, none⟩), seatGate s, f 2, f 3, .slice none 0 0, .int .i64 0, .slice (some ⟨g, 0, none⟩) N N, f 7, f 8, f 9, f 10, f 11, f 12, f 13, f 14, f 15, f 16, f 17, f 18, f 19, .int .i64 N, .int .i64 (L.length + 1 : Nat), f 22, f 23, f 24, f 25, f 26, f 27, f 28, f 29, f 30, f 31, f 32, f 33, f 34, f 35, f 36, f 37, f 38]) ?_
    rfl
  · have i1 : ¬ (L.length : Int) < (N : Int) := by omega
    have hL : L.length = N := by omega
    refine valE O rfl (.bool false) rfl rfl (fun _ => by simp [go_sem]) (fun _ => by go_simp; try (first | rfl | (simp [*]))) ?_; try walk_nrm
    refine cpsR_nil O ?_
    show cps _ _ _ _ _ _
    repeat refine cps_seq O ?_
    refine cps_cond O (v := false) rfl ?_
    simp only [Bool.false_eq_true, if_false]
    refine cps_exit O ?_
    have h := AtT.cong h (pd_ge hi)
    show cps _ _ _ _ _ _
    repeat refine cps_seq O ?_
    (refine cps_region O ?_; simp only [List.size_toArray, List.length_cons, List.length_nil, Nat.reduceAdd, Nat.zero_add, List.range, List.range.loop])
    refine valE O rfl (.slice (some ⟨g, 0, none⟩) N N) rfl rfl (fun _ => by simp [go_sem]) (fun _ => by go_simp; try (first | rfl | (simp [*]))) ?_; try walk_nrm
    refine valE O rfl (.slice (some ⟨g, 0, none⟩) N N) rfl rfl (fun _ => by simp [go_sem]) (fun _ => by go_simp; try (first | rfl | (simp [*]))) ?_; try walk_nrm
    refine valE O rfl (.int .i64 0) rfl rfl (fun _ => by simp [go_sem]) (fun _ => by go_simp; try (first | rfl | (simp [*]))) ?_; try walk_nrm
    refine cpsR_nil O ?_
    show cps _ _ _ _ _ _
    exact cps_ret O (hQ _ _ _ _ ⟨.inr rfl, .tuple #[.slice (some ⟨g, 0, none⟩) N N, .int .i64 0], ret2E O rfl rfl rfl, Hq.out _ _ _ L g _ hL hLv h⟩)
set_option maxRecDepth 100000 in
set_option maxHeartbeats 8000000 in
theorem sum_t {i low : Nat} {l : Priv} {n : (bwK B T A H N m rows old bb eb ob).Ix} {k : Nat} {a : TSt} {w : World} (hN : 0 < N) (h : AtT (bwK B T A H N m rows old bb eb ob) Wg s (m, i, low) l n k a (a, .inl (.part 0 [])) w) {Q : (bwK B T A H N m rows old bb eb ob).Ix → Value → World → Prop}
    (hq : ∀ n' k' (a' : TSt) (L : List Nat) (l' : Priv) w', AtT (bwK B T A H N m rows old bb eb ob) Wg s (m, i, low) l' n' k' a' (a', .inr (.list L)) w' → Q n' (.tuple #[.int .u64 (wsum L : Nat), .int .i64 0]) w') :
    cpsC (envT (bwK B T A H N m rows old bb eb ob).core.spec Wg (WgL Wg) s) 20 #[.pointer (some ⟨T, 0, none⟩), seatGate s] Q n w := by
  have O := envT_ok (bwK B T A H N m rows old bb eb ob).core.spec Wg (WgL Wg) s
  have hN64 := (at_len h).2.2
  refine cpsC_body O Try.func20 rfl ?_
  simp only [Try.ntmps20]
  refine cps_opaque fun Q' hQ => ?_
  have Hq := Lib.hid hq
  clear hq
  walk_nrm
  repeat refine cps_seq O ?_
  (refine cps_region O ?_; simp only [List.size_toArray, List.length_cons, List.length_nil, Nat.reduceAdd, Nat.zero_add, List.range, List.range.loop])
  refine valE O rfl (.int .u64 0) rfl rfl (fun _ => by simp [go_sem]) (fun _ => by go_simp; try (first | rfl | (simp [*]))) ?_; try walk_nrm
  refine valE O rfl (.int .i64 0) rfl rfl (fun _ => by simp [go_sem]) (fun _ => by go_simp; try (first | rfl | (simp [*]))) ?_; try walk_nrm
  refine cpsR_nil O ?_
  show cps _ _ _ _ _ _
  refine cps_seq O ?_
  (refine cps_region O ?_; simp only [List.size_toArray, List.length_cons, List.length_nil, Nat.reduceAdd, Nat.zero_add, List.range, List.range.loop])
  refine valE O rfl (.pointer (some ⟨T, 0, none⟩)) rfl rfl (fun _ => by simp [go_sem]) (fun _ => by go_simp; try (first | rfl | (simp [*]))) ?_; try walk_nrm
  refine valE O rfl (seatGate s) rfl rfl (fun _ => by simp [go_sem]) (fun _ => by go_simp; try (first | rfl | (simp [*]))) ?_; try walk_nrm
  refine callE O rfl (f := 21) (vals := #[.pointer (some ⟨T, 0, none⟩), seatGate s]) rfl rfl rfl Try.func21 rfl rfl rfl ?_
  refine parts_t hN h fun n1 k1 a1 L g w1 hL hLv h1 => ?_
  clear h
  try walk_nrm
  refine valE O rfl (.tuple #[.slice (some ⟨g, 0, none⟩) N N, .int .i64 0]) rfl rfl (fun _ => by simp [go_sem]) (fun _ => by go_simp; try (first | rfl | (simp [*]))) ?_; try walk_nrm
  refine valE O rfl (.slice (some ⟨g, 0, none⟩) N N) rfl rfl (fun _ => by simp [go_sem]) (fun _ => by go_simp; try (first | rfl | (simp [*]))) ?_; try walk_nrm
  refine valE O rfl (.int .i64 0) rfl rfl (fun _ => by simp [go_sem]) (fun _ => by go_simp; try (first | rfl | (simp [*]))) ?_; try walk_nrm
  refine valE O rfl (.slice (some ⟨g, 0, none⟩) N N) rfl rfl (fun _ => by simp [go_sem]) (fun _ => by go_simp; try (first | rfl | (simp [*]))) ?_; try walk_nrm
  refine valE O rfl (.int .i64 0) rfl rfl (fun _ => by simp [go_sem]) (fun _ => by go_simp; try (first | rfl | (simp [*]))) ?_; try walk_nrm
  refine cpsR_nil O ?_
  show cps _ _ _ _ _ _
  refine cps_seq O ?_
  (refine cps_region O ?_; simp only [List.size_toArray, List.length_cons, List.length_nil, Nat.reduceAdd, Nat.zero_add, List.range, List.range.loop])
  refine valE O rfl (.int .u64 0) rfl rfl (fun _ => by simp [go_sem]) (fun _ => by go_simp; try (first | rfl | (simp [*]))) ?_; try walk_nrm
  refine cpsR_nil O ?_
  show cps _ _ _ _ _ _
  repeat refine cps_seq O ?_
  (refine cps_region O ?_; simp only [List.size_toArray, List.length_cons, List.length_nil, Nat.reduceAdd, Nat.zero_add, List.range, List.range.loop])
  refine valE O rfl (.slice (some ⟨g, 0, none⟩) N N) rfl rfl (fun _ => by simp [go_sem]) (fun _ => by go_simp; try (first | rfl | (simp [*]))) ?_; try walk_nrm
  refine valE O rfl (.int .i64 N) rfl rfl (fun _ => by simp [go_sem]) (fun _ => by go_simp; try (first | rfl | (simp [*]))) ?_; try walk_nrm
  refine valE O rfl (.int .i64 0) rfl rfl (fun _ => by simp [go_sem]) (fun _ => by go_simp; try (first | rfl | (simp [*]))) ?_; try walk_nrm
  refine cpsR_nil O ?_
  show cps _ _ _ _ _ _
  refine cps_block O ?_
  refine cps_loopm O (fun m' n' t w' => ∃ (j k' : Nat) (a' : TSt), m' + j = N ∧ AtT (bwK B T A H N m rows old bb eb ob) Wg s (m, i, low) (bufP g N L) n' k' a' (a', .inr (.list L)) w' ∧ ∃ f : Nat → Value, t = #[.pointer (some ⟨T, 0, none⟩), seatGate s, f 2, f 3, .int .u64 0, .int .i64 0, .slice (some ⟨g, 0, none⟩) N N, .int .i64 0, .int .u64 (wsum (L.take j) : Nat), f 9, f 10, f 11, f 12, f 13, f 14, f 15, f 16, .slice (some ⟨g, 0, none⟩) N N, .int .i64 N, .int .i64 j, f 20, f 21, f 22, f 23, f 24, f 25, f 26, f 27, f 28]) ?_ (m := N) ⟨0, k1, a1, by simp, h1, ex_fun (φ := fun f => #[.pointer (some ⟨T, 0, none⟩), seatGate s, f 2, f 3, .int .u64 0, .int .i64 0, .slice (some ⟨g, 0, none⟩) N N, .int .i64 0, .int .u64 (wsum (L.take 0) : Nat), f 9, f 10, f 11, f 12, f 13, f 14, f 15, f 16, .slice (some ⟨g, 0, none⟩) N N, .int .i64 N, .int .i64 0, f 20, f 21, f 22, f 23, f 24, f 25, f 26, f 27, f 28]) rfl⟩
  clear h1
  rintro m' n' t w' ⟨j, k', a', hmj, h, f, rfl⟩
  repeat refine cps_seq O ?_
  (refine cps_region O ?_; simp only [List.size_toArray, List.length_cons, List.length_nil, Nat.reduceAdd, Nat.zero_add, List.range, List.range.loop])
  by_cases hj : j < N
  · have i1 : (j : Int) < (N : Int) := by omega
    refine valE O rfl (.bool true) rfl rfl (fun _ => by simp [go_sem]) (fun _ => by go_simp; try (first | rfl | (simp [*]))) ?_; try walk_nrm
    refine cpsR_nil O ?_
    show cps _ _ _ _ _ _
    repeat refine cps_seq O ?_
    refine cps_cond O (v := true) rfl ?_
    simp only [if_true]
    refine cps_skip O ?_
    show cps _ _ _ _ _ _
    repeat refine cps_seq O ?_
    refine cps_block O ?_
    refine cps_seq O ?_
    refine askP h (by kernel_rfl) fun u hu hp => ?_
    obtain ⟨hrow, _⟩ := buf_row hp
    have hc : u.cell? ⟨g, j, none⟩ = some (.int .u64 (L[j] : Nat)) := by
      rw [hrow.cell, buf_all hL]
      exact uw_get L j (by omega)
    have Hp := Lib.hid hp
    clear hu hp hrow
    go_wp2
    refine ⟨rfl, _, Sm.refl _ _, Hp.out, fun b hb => .inl hb, fun w2 h2 => ?_⟩
    clear Hp hc h
    show cps _ _ _ _ _ _
    have hw : IntKind.u64.wrap ((wsum (L.take j) : Nat) + (L[j] : Nat) : Int) = ((wsum (L.take (j + 1)) : Nat) : Int) := by
      rw [wsum_succ L j (by omega), IntKind.wrap_u64]; omega
    (refine cps_region O ?_; simp only [List.size_toArray, List.length_cons, List.length_nil, Nat.reduceAdd, Nat.zero_add, List.range, List.range.loop])
    refine valE O rfl (.int .u64 (wsum (L.take j) : Nat)) rfl rfl (fun _ => by simp [go_sem]) (fun _ => by go_simp; try (first | rfl | (simp [*]))) ?_; try walk_nrm
    refine valE O rfl (.int .u64 (L[j] : Nat)) rfl rfl (fun _ => by simp [go_sem]) (fun _ => by go_simp; try (first | rfl | (simp [*]))) ?_; try walk_nrm
    refine valE O rfl (.int .u64 (wsum (L.take (j + 1)) : Nat)) rfl rfl (fun _ => by simp [go_sem]) (fun _ => by go_simp; try (first | rfl | (simp [*]))) ?_; try walk_nrm
    refine valE O rfl (.int .u64 (wsum (L.take (j + 1)) : Nat)) rfl rfl (fun _ => by simp [go_sem]) (fun _ => by go_simp; try (first | rfl | (simp [*]))) ?_; try walk_nrm
    refine cpsR_nil O ?_
    show cps _ _ _ _ _ _
    have hp : IntKind.i64.wrap ((j : Int) + 1) = ((j + 1 : Nat) : Int) := by rw [IntKind.wrap_i64]; omega
    (refine cps_region O ?_; simp only [List.size_toArray, List.length_cons, List.length_nil, Nat.reduceAdd, Nat.zero_add, List.range, List.range.loop])
    refine valE O rfl (.int .i64 (j + 1 : Nat)) rfl rfl (fun _ => by simp [go_sem]) (fun _ => by go_simp; try (first | rfl | (simp [*]))) ?_; try walk_nrm
    refine valE O rfl (.int .i64 (j + 1 : Nat)) rfl rfl (fun _ => by simp [go_sem]) (fun _ => by go_simp; try (first | rfl | (simp [*]))) ?_; try walk_nrm
    refine cpsR_nil O ?_
    exact ⟨m' - 1, by omega, j + 1, k', a', by omega, h2, ex_fun (φ := fun f => #[.pointer (some ⟨T, 0, none⟩), seatGate s, f 2, f 3, .int .u64 0, .int .i64 0, .slice (some ⟨g, 0, none⟩) N N, .int .i64 0, .int .u64 (wsum (L.take (j + 1)) : Nat), f 9, f 10, f 11, f 12, f 13, f 14, f 15, f 16, .slice (some ⟨g, 0, none⟩) N N, .int .i64 N, .int .i64 (j + 1 : Nat), f 20, f 21, f 22, f 23, f 24, f 25, f 26, f 27, f 28]) rfl⟩
  · have i1 : ¬ (j : Int) < (N : Int) := by omega
    have hjN : L.take j = L := List.take_of_length_le (by omega)
    rw [hjN]
    refine valE O rfl (.bool false) rfl rfl (fun _ => by simp [go_sem]) (fun _ => by go_simp; try (first | rfl | (simp [*]))) ?_; try walk_nrm
    refine cpsR_nil O ?_
    show cps _ _ _ _ _ _
    repeat refine cps_seq O ?_
    refine cps_cond O (v := false) rfl ?_
    simp only [Bool.false_eq_true, if_false]
    refine cps_exit O ?_
    show cps _ _ _ _ _ _
    repeat refine cps_seq O ?_
    (refine cps_region O ?_; simp only [List.size_toArray, List.length_cons, List.length_nil, Nat.reduceAdd, Nat.zero_add, List.range, List.range.loop])
    refine valE O rfl (.int .u64 (wsum L : Nat)) rfl rfl (fun _ => by simp [go_sem]) (fun _ => by go_simp; try (first | rfl | (simp [*]))) ?_; try walk_nrm
    refine valE O rfl (.int .i64 0) rfl rfl (fun _ => by simp [go_sem]) (fun _ => by go_simp; try (first | rfl | (simp [*]))) ?_; try walk_nrm
    refine valE O rfl (.int .u64 (wsum L : Nat)) rfl rfl (fun _ => by simp [go_sem]) (fun _ => by go_simp; try (first | rfl | (simp [*]))) ?_; try walk_nrm
    refine valE O rfl (.int .i64 0) rfl rfl (fun _ => by simp [go_sem]) (fun _ => by go_simp; try (first | rfl | (simp [*]))) ?_; try walk_nrm
    refine cpsR_nil O ?_
    show cps _ _ _ _ _ _
    exact cps_ret O (hQ _ _ _ _ ⟨.inr rfl, .tuple #[.int .u64 (wsum L : Nat), .int .i64 0], ret2E O rfl rfl rfl, Hq.out _ _ _ L _ _ h⟩)
end
end Go.Proofs.Ytdedmmjmiakidaa
