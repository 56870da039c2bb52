/- Plain words: patchbaylaw08.drained and ends, walked alone. No condition. -/
import Derived.Test.YtmcffabfghhpaaaOnceMAC
import Derived.Test.YtmcffabfghhpaaaFwAJ
import Derived.Test.YtmcffabfghhpaaaOnceMAB
import Derived.Test.YtmcffabfghhpaaaOnceMAA
import Derived.Test.YtmcffabfghhpaaaFwAK
set_option linter.unusedVariables false
set_option linter.unusedSimpArgs false
/- Plain words: patchbaylaw08.drained and ends, walked alone. No condition. -/
namespace Go.Proofs.Ytmcffabfghhpaaa
open Go.RowKit
set_option linter.unusedVariables false
set_option linter.unusedSimpArgs false
theorem info_u64r : (Try.prog.info? 30).map (fun i => (i.zero, i.size, i.bytes)) = some (some (.int .u64 0), 1, 8) := by kernel_rfl
theorem sm_then {F G : Nat → Prop} {a b c : World} (h : Sm F a b) (k : Sm G b c) (hG : ∀ x, G x → a.heap.size ≤ x) : Sm F a c :=
  ⟨k.os.trans h.os, k.tape.trans h.tape, k.output.trans h.output, Nat.le_trans h.size k.size, fun j hj hf => (k.block j (Nat.lt_of_lt_of_le hj h.size) (fun hg => by have := hG j hg; omega)).trans (h.block j hj hf)⟩
theorem slots_a {S N n : Nat} {vals : List Nat} (hn0 : 0 < n) (w : World) (h : AS S N n vals w) : Calls Try.prog 15 #[.pointer (some ⟨S, 0, none⟩)] w fun e w' => e = .returned (.int .i64 n) ∧ w = w' := by
  obtain ⟨t0, t1, m, l, f, hs, _⟩ := h
  exact slots_c S (hdr t0 t1 N n) N n rfl hn0 w hs.rS
theorem AS.lt {S N n : Nat} {vals : List Nat} {w : World} (h : AS S N n vals w) : S < w.heap.size ∧ N < w.heap.size := by
  obtain ⟨t0, t1, m, l, f, hs, _⟩ := h
  exact ⟨hs.rS.lt, hs.rN.lt⟩
set_option maxRecDepth 100000 in
set_option maxHeartbeats 1600000 in
theorem drained_c {S N n : Nat} (hn0 : 0 < n) (hn : n ≤ 1024) (vals : List Nat) (w : World) (h : AS S N n vals w) :
    Calls Try.prog 54 #[.pointer (some ⟨S, 0, none⟩)] w fun e w' => ∃ v, e = .returned (.tuple #[v, .bool true]) ∧ w'.ownsRow w.heap.size 30 1 v vals.length (u64s vals) ∧ AS S N n [] w' ∧ Sm (two S N) w w' := by
  obtain ⟨i0, hi, hz0, hz1, hz2⟩ := info_parts info_u64r
  have Hi := Lib.hid hi
  have Hz0 := Lib.hid hz0
  have Hz1 := Lib.hid hz1
  have Hz2 := Lib.hid hz2
  have hle := h.le
  obtain ⟨hSw, hNw⟩ := h.lt
  have HA := Lib.hid h
  clear hi hz0 hz1 hz2 h
  go_enter Try.func54, Try.ntmps54
  go_wp2
  go_loopw [4, 5] (fun s4 s5 wr => ∃ k : Nat, k ≤ vals.length ∧ s5 = .int .i64 k ∧ Hid (AS S N n (vals.drop k) wr) ∧ Hid (wr.ownsRow w.heap.size 30 1 s4 k (u64s (vals.take k))) ∧ Hid (Sm (two S N) w wr)) (fun _ s5 _ => n + 1 - (intOf s5).toNat)
  case atStart => exact ⟨0, by omega, rfl, Lib.hid (by simpa using HA.out), Lib.hid (World.ownsRow_nil _ _ _ _), Lib.hid (Sm.refl _ _)⟩
  case round =>
    obtain ⟨wo, rfl⟩ : ∃ wo : World, wo = wr := ⟨_, rfl⟩
    obtain ⟨k, hk, rfl, hA, hown, hS⟩ := hrel
    obtain ⟨a4, c4, hv4⟩ := own_form0 hown.out
    subst hv4
    have j1 : (k : Int) ≤ (n : Int) := by omega
    have hz := hS.out.size
    by_cases hlt : k < vals.length
    · have hp : wrap64 ((k : Int) + 1) = ((k + 1 : Nat) : Int) := by unfold wrap64; omega
      have HP := Lib.hid hp
      obtain ⟨x, hx⟩ : ∃ x, x = vals[k] := ⟨_, rfl⟩
      have P := Lib.hid (pop_a (S := S) (N := N) (n := n) (vals.drop (k + 1)) x wo (by rw [hx, ← List.drop_eq_getElem_cons hlt]; exact hA.out))
      have htk : u64s (vals.take (k + 1)) = u64s (vals.take k) ++ [.int .u64 (x : Int)] := by
        rw [List.take_succ_eq_append_getElem hlt, u64s_snoc, hx]
      have HTK := Lib.hid htk
      clear hp hx htk
      go_wp2_with fail
      refine (slots_a hn0 wo hA.out).mono ?_
      rintro e w' ⟨rfl, rfl⟩
      go_wp2_with fail
      refine P.out.mono ?_
      rintro e w3 ⟨rfl, hAS3, hs3⟩
      have HAS3 := Lib.hid hAS3
      have HOWN3 := Lib.hid (own_sm hown.out hs3 (fun b hb hf => by rcases hf with rfl | rfl <;> omega))
      have HS3 := Lib.hid (hS.out.trans hs3)
      have hz3 := hs3.size
      clear hAS3 hs3
      go_wp2_with (at_builtin; refine wpList_append_own _ rfl (.tmp 26) (.tmp 28) 23 rfl w.heap.size 30 i0 (.int .u64 0) 1 8 Try.underlying23 Hi.out Hz0.out Hz1.out Hz2.out rfl (by decide) _ k (u64s (vals.take k)) rfl (HOWN3.out.alloc _) ⟨w3.heap.size, 0, none⟩ 1 1 [.int .u64 (x : Int)] rfl rfl (new_cells w3 [.int .u64 (x : Int)] 30) (by simp [Value.oneCell']) (by unfold maxLen; omega) (by omega) (by simp; omega) ?_; intro v' w4 hown4 hg4 _)
      have hs4 : Sm (fun k => w.heap.size ≤ k) w3 w4 := ((Sm.refl _ w3).alloc _).trans (sm_grown hg4 fun k e => (HOWN3.out.lt k e).1)
      have HAS4 := Lib.hid (HAS3.out.sm hs4 (by omega) (by omega))
      have HS4 := Lib.hid (sm_then HS3.out hs4 (fun _ h => h))
      have HOWN4 := Lib.hid hown4
      clear hown4 hg4 hs4
      go_wp2
      go_roundw
      case rel => exact ⟨k + 1, by omega, by first | rw [HP.out] | go_num, HAS4, Lib.hid (by rw [HTK.out]; exact HOWN4.out), HS4⟩
      case measure => (try rw [HP.out]); simp only [intOf]; omega
    · obtain rfl : k = vals.length := by omega
      have P := Lib.hid (pop_b (S := S) (N := N) (n := n) wo (by simpa using hA.out))
      go_wp2_with fail
      refine (slots_a hn0 wo hA.out).mono ?_
      rintro e w' ⟨rfl, rfl⟩
      go_wp2_with fail
      refine P.out.mono ?_
      rintro e w3 ⟨rfl, hAS3, hs3⟩
      have HAS3 := Lib.hid hAS3
      have HOWN3 := Lib.hid (own_sm hown.out hs3 (fun b hb hf => by rcases hf with rfl | rfl <;> omega))
      have HS3 := Lib.hid (hS.out.trans hs3)
      clear hAS3 hs3
      go_wp2
      go_ret2
      exact ⟨_, rfl, by have := HOWN3.out; rwa [List.take_length] at this, HAS3.out, HS3.out⟩
section
variable {G m : Nat} {bk : Nat → Nat} {b : Nat → List Nat × List Nat} {γ : Nat → Value × Value × Nat} {w w' : World}
theorem Bks.sm {F : Nat → Prop} (h : Bks G m bk b γ w) (k : Sm F w w') (hG : ¬ F G) (hF : ∀ j, j < m → ∀ x, bookFoot (bk j) (b j, γ j) x → ¬ F x) : Bks G m bk b γ w' := by
  refine ⟨fun i hi => cell_sm (h.ptr i hi) k h.ltG hG, fun i hi => (h.rep i hi).frame fun x hx => ?_, Nat.lt_of_lt_of_le h.ltG k.size⟩
  have hx' : x < w.heap.size := by
    rcases id hx with rfl | hx | hx
    · exact (h.rep i hi).row.lt
    · exact (own_lo (h.rep i hi).q1 hx).2
    · exact (own_lo (h.rep i hi).q2 hx).2
  exact k.block x hx' (hF i hi x hx)
end
set_option maxRecDepth 100000 in
set_option maxHeartbeats 1600000 in
theorem ends_c {S N n G gc m : Nat} {bk : Nat → Nat} {b : Nat → List Nat × List Nat} {γ : Nat → Value × Value × Nat} (hn0 : 0 < n) (hn : n ≤ 1024) (vals : List Nat) (w : World) (hm : m ≤ 8) (h : AS S N n vals w) (hB : Bks G m bk b γ w) (hG : ¬ two S N G) (hoff : ∀ j, j < m → ∀ x, bookFoot (bk j) (b j, γ j) x → ¬ two S N x)
    (hlen : ∀ k, k < m → (b k).1.length ≤ 5000 ∧ (b k).2.length ≤ 5000) (hS : Settles m b vals) :
    Calls Try.prog 20 #[.pointer (some ⟨S, 0, none⟩), .slice (some ⟨G, 0, none⟩) m gc] w fun e w' => e = .returned (.bool true) ∧ Sm (two S N) w w' := by
  have hle := h.le
  have P0 := Lib.hid (drained_c hn0 hn vals w h)
  have HB := Lib.hid hB
  have HO := Lib.hid hoff
  have HG := Lib.hid hG
  have HL := Lib.hid hlen
  have HS := Lib.hid hS
  clear h hB hoff hG hlen hS
  go_enter Try.func20, Try.ntmps20
  go_wp2_with fail
  refine P0.out.mono ?_
  rintro e w1 ⟨v, rfl, hown, hA1, hs1⟩
  obtain ⟨av, cv, hv⟩ := own_form0 hown
  subst hv
  have P1 := Lib.hid (settled_c (gc := gc) w1 hm (HB.out.sm hs1 HG.out HO.out) hown (by omega) HL.out HS.out)
  have HA1 := Lib.hid hA1
  have HS1 := Lib.hid hs1
  clear hown hA1 hs1
  go_wp2_with fail
  refine P1.out.mono ?_
  rintro e w2 ⟨rfl, hs2⟩
  have HA2 := Lib.hid (HA1.out.sm hs2 (fun h => h) (fun h => h))
  have HS2 := Lib.hid (HS1.out.trans (hs2.mono fun _ h => h.elim))
  clear hs2
  go_wp2
  go_loopw [7] (fun s7 wr => ∃ i : Nat, i ≤ n + 1 ∧ s7 = .int .i64 i ∧ Hid (AS S N n (List.replicate (min i n) 1) wr) ∧ Hid (Sm (two S N) w wr)) (fun s7 _ => n + 1 - (intOf s7).toNat)
  case atStart => exact ⟨0, by omega, rfl, Lib.hid (by simpa using HA2.out), HS2⟩
  case round =>
    obtain ⟨wo, rfl⟩ : ∃ wo : World, wo = wr := ⟨_, rfl⟩
    obtain ⟨i, hi, rfl, hA, hS⟩ := hrel
    by_cases hin : i ≤ n
    · have j1 : (i : Int) ≤ (n : Int) := by omega
      have hp : wrap64 ((i : Int) + 1) = ((i + 1 : Nat) : Int) := by unfold wrap64; omega
      have HP := Lib.hid hp
      clear hp
      by_cases hlt : i < n
      · have j2 : (i : Int) < (n : Int) := by omega
        have P := Lib.hid (push_a (S := S) (N := N) (n := n) (List.replicate (min i n) 1) 1 (by decide) wo hA.out (by simp; omega))
        go_wp2_with fail
        refine (slots_a hn0 wo hA.out).mono ?_
        rintro e w' ⟨rfl, rfl⟩
        go_wp2_with fail
        refine P.out.mono ?_
        rintro e w3 ⟨rfl, hAS3, hs3⟩
        have HAS3 := Lib.hid (show AS S N n (List.replicate (min (i + 1) n) 1) w3 by rw [show min (i + 1) n = min i n + 1 from by omega, List.replicate_succ]; exact hAS3)
        have HS3 := Lib.hid (hS.out.trans hs3)
        clear hAS3 hs3
        go_wp2_with fail
        refine (slots_a hn0 w3 HAS3.out).mono ?_
        rintro e w' ⟨rfl, rfl⟩
        go_wp2
        go_roundw
        case rel => exact ⟨i + 1, by omega, by first | rw [HP.out] | go_num, HAS3, HS3⟩
        case measure => (try rw [HP.out]); simp only [intOf]; omega
      · have j2 : ¬ (i : Int) < (n : Int) := by omega
        have P := Lib.hid (push_b (S := S) (N := N) (n := n) (List.replicate (min i n) 1) 1 wo hA.out (by simp; omega))
        go_wp2_with fail
        refine (slots_a hn0 wo hA.out).mono ?_
        rintro e w' ⟨rfl, rfl⟩
        go_wp2_with fail
        refine P.out.mono ?_
        rintro e w3 ⟨rfl, hAS3, hs3⟩
        have HAS3 := Lib.hid (show AS S N n (List.replicate (min (i + 1) n) 1) w3 by rw [show min (i + 1) n = min i n from by omega]; exact hAS3)
        have HS3 := Lib.hid (hS.out.trans hs3)
        clear hAS3 hs3
        go_wp2_with fail
        refine (slots_a hn0 w3 HAS3.out).mono ?_
        rintro e w' ⟨rfl, rfl⟩
        go_wp2
        go_roundw
        case rel => exact ⟨i + 1, by omega, by first | rw [HP.out] | go_num, HAS3, HS3⟩
        case measure => (try rw [HP.out]); simp only [intOf]; omega
    · have j1 : ¬ (i : Int) ≤ (n : Int) := by omega
      go_wp2_with fail
      refine (slots_a hn0 wo hA.out).mono ?_
      rintro e w' ⟨rfl, rfl⟩
      go_wp2
      go_ret
      exact ⟨rfl, hS.out⟩
end Go.Proofs.Ytmcffabfghhpaaa
/- Plain words: a region that draws its order, in company, by what holds of each set of what is done. No condition. -/
namespace Go.Proofs.Ytmcffabfghhpaaa
open Go.Conc Go.RowKit
section
variable {md : Region.Mode} {ops : Array Oper} {r : Nat → Nat}
/-- Who is done has his due done. -/
def Closed (md : Region.Mode) (ops : Array Oper) (listed : Array Bool) : Prop := ∀ j o, ops[j]? = some o → listed.getD j false = true → ∀ e ∈ o.after, Region.binds md e = true → listed.getD e.on false = true
/-- Each waits for lower ones alone. -/
def upward (md : Region.Mode) (r : Nat → Nat) (ops : Array Oper) : Bool := (List.range ops.size).all fun i => (ops[i]?).all fun o => o.after.all fun e => !Region.binds md e || (decide (r e.on < r i) && decide (e.on < ops.size))
theorem upward_on (h : upward md r ops = true) {i : Nat} {o : Oper} (ho : ops[i]? = some o) : ∀ e ∈ o.after, Region.binds md e = true → r e.on < r i ∧ e.on < ops.size := by
  have hi := (Array.getElem?_eq_some_iff.1 ho).1
  have h1 := List.all_eq_true.1 h i (List.mem_range.2 hi)
  rw [ho] at h1
  intro e he hb
  have := Array.all_eq_true_iff_forall_mem.1 h1 e he
  simpa [hb] using this
theorem ready_mem {listed : Array Bool} {i : Nat} (h : i ∈ Region.ready md ops listed) : ∃ o, ops[i]? = some o ∧ listed.getD i true = false ∧ ∀ e ∈ o.after, Region.binds md e = true → listed.getD e.on false = true := by
  obtain ⟨h1, h2⟩ := List.mem_filter.1 h
  have hi := List.mem_range.1 h1
  simp only [Bool.and_eq_true, Bool.not_eq_true'] at h2
  refine ⟨ops[i], Array.getElem?_eq_getElem hi, h2.1, fun e he hb => ?_⟩
  have h3 := h2.2
  rw [Array.getElem?_eq_getElem hi] at h3
  simp only [Option.map_some, Option.getD_some] at h3
  have := Array.all_eq_true_iff_forall_mem.1 h3 e he
  simpa [hb] using this
theorem getD_setT (listed : Array Bool) (i j : Nat) (d : Bool) (hi : i < listed.size) : (listed.setIfInBounds i true).getD j d = if j = i then true else listed.getD j d := by
  simp only [Array.getD_eq_getD_getElem?, Array.getElem?_setIfInBounds]
  by_cases e : i = j
  · subst e; simp [hi]
  · rw [if_neg e, if_neg (fun h => e h.symm)]
theorem getD_low {listed : Array Bool} {i : Nat} (h : listed.getD i true = false) : i < listed.size := by
  rw [Array.getD_eq_getD_getElem?] at h
  by_cases hi : i < listed.size
  · exact hi
  · rw [Array.getElem?_eq_none (by omega)] at h
    cases h
theorem Closed.next {listed : Array Bool} (h : Closed md ops listed) {i : Nat} {o : Oper} (ho : ops[i]? = some o) (hi : i < listed.size) (hr : ∀ e ∈ o.after, Region.binds md e = true → listed.getD e.on false = true) : Closed md ops (listed.setIfInBounds i true) := by
  intro j o' ho' hj e he hb
  rw [getD_setT _ _ _ _ hi] at hj ⊢
  by_cases e1 : e.on = i
  · rw [if_pos e1]
  · rw [if_neg e1]
    by_cases e2 : j = i
    · subst e2
      rw [ho] at ho'
      obtain rfl := Option.some.inj ho'
      exact hr e he hb
    · rw [if_neg e2] at hj
      exact h j o' ho' hj e he hb
theorem ready_none (hu : upward md r ops = true) {listed : Array Bool} (hsz : listed.size = ops.size) (h : Region.ready md ops listed = []) : ∀ i, i < ops.size → listed.getD i true = true := by
  have key : ∀ N i, r i = N → i < ops.size → listed.getD i true = true := by
   intro N
   induction N using Nat.strongRecOn with
   | ind N ih =>
    intro i hN hi
    cases hl : listed.getD i true with
    | true => rfl
    | false =>
      exfalso
      have hsz := getD_low hl
      have : i ∈ Region.ready md ops listed := by
        refine List.mem_filter.2 ⟨List.mem_range.2 hi, ?_⟩
        rw [hl, Array.getElem?_eq_getElem hi]
        simp only [Bool.not_false, Bool.true_and, Option.map_some, Option.getD_some]
        refine Array.all_eq_true_iff_forall_mem.2 fun e he => ?_
        cases hbd : Region.binds md e with
        | false => rfl
        | true =>
        have h1 := upward_on hu (Array.getElem?_eq_getElem hi) e he hbd
        have h2 := ih (r e.on) (by rw [← hN]; exact h1.1) e.on rfl h1.2
        have h3 : listed.getD e.on false = true := by
          rw [Array.getD_eq_getD_getElem?] at h2 ⊢
          cases hq : listed[e.on]? with
          | none =>
            exfalso
            have hle := Array.getElem?_eq_none_iff.1 hq
            have := h1.2
            omega
          | some x => rw [hq] at h2; exact h2
        simp [h3]
      rw [h] at this
      cases this
  exact fun i => key (r i) i rfl
variable {E : Env} {Qr : E.ι → Array Value → World → Prop}
/-- By an invariant over what is done. -/
theorem cpsR_ord (hu : upward md r ops = true) (Inv : Array Bool → E.ι → Array Value → World → Prop)
    (hstep : ∀ listed i o l n t w, listed.size = ops.size → ops[i]? = some o → listed.getD i true = false → (∀ e ∈ o.after, Region.binds md e = true → listed.getD e.on false = true) → Closed md ops listed → Inv listed n t w →
      (∀ n' t' w', Inv (listed.setIfInBounds i true) n' t' w' → cpsR E ops l Qr n' t' w') → cpsR E ops (i :: l) Qr n t w)
    (hend : ∀ listed n t w, listed.size = ops.size → (∀ i, i < ops.size → listed.getD i true = true) → Inv listed n t w → cpsR E ops [] Qr n t w) :
    ∀ {listed : Array Bool} {l : List Nat}, Ord md ops listed l → listed.size = ops.size → Closed md ops listed → ∀ {n t w}, Inv listed n t w → cpsR E ops l Qr n t w := by
  intro listed l h
  induction h with
  | nil h => exact fun hs _ n t w hi => hend _ n t w hs (ready_none hu hs h) hi
  | cons h hl ih =>
    intro hs hc n t w hi
    obtain ⟨o, ho, h1, h2⟩ := ready_mem h
    have hlt := getD_low h1
    exact hstep _ _ o _ n t w hs ho h1 h2 hc hi fun n' t' w' hi' => ih (by simpa using hs) (hc.next ho hlt h2) hi'
/-- A region that draws, so. -/
theorem cps_ord (O : E.Ok) (hP : E.P.follows .mixedOrders = true) (hu : upward .any r ops = true) {id : Nat} {Q : E.ι → Exit → Array Value → World → Prop} (Inv : Array Bool → E.ι → Array Value → World → Prop)
    (hstep : ∀ listed i o l n t w, listed.size = ops.size → ops[i]? = some o → listed.getD i true = false → (∀ e ∈ o.after, Region.binds .any e = true → listed.getD e.on false = true) → Closed .any ops listed → Inv listed n t w →
      (∀ n' t' w', Inv (listed.setIfInBounds i true) n' t' w' → cpsR E ops l (fun n t w => Q n .normal t w) n' t' w') → cpsR E ops (i :: l) (fun n t w => Q n .normal t w) n t w)
    (hend : ∀ listed n t w, listed.size = ops.size → (∀ i, i < ops.size → listed.getD i true = true) → Inv listed n t w → cpsR E ops [] (fun n t w => Q n .normal t w) n t w)
    {n : E.ι} {t : Array Value} {w : World} (h : Inv (Array.replicate ops.size false) n t w) : cps E (.region id ops true) Q n t w :=
  cps_region_draw O fun m => cpsR_ord hu Inv hstep hend (schedule_ord hP ops m) (by simp) (fun j o ho hj => by
    exfalso
    have hi := (Array.getElem?_eq_some_iff.1 ho).1
    rw [Array.getD_eq_getD_getElem?] at hj
    simp [hi] at hj) h
end
end Go.Proofs.Ytmcffabfghhpaaa
/- Plain words: a frame under a region that draws its order. No condition. -/
namespace Go.Proofs.Ytmcffabfghhpaaa
open Go.Conc Go.RowKit
section
variable {ops : Array Oper} {base t t' : Array Value} {val : Nat → Value} {listed : Array Bool} {i j s : Nat}
def dstOf (ops : Array Oper) (j : Nat) : Option Nat := (ops[j]?).bind (·.dst)
/-- No slot is written twice, none lies outside. -/
structure ApartD (ops : Array Oper) (N : Nat) : Prop where
  one : ∀ j j' s, dstOf ops j = some s → dstOf ops j' = some s → j = j'
  low : ∀ j s, dstOf ops j = some s → s < N
/-- The frame where these are done. -/
structure FrD (ops : Array Oper) (base : Array Value) (val : Nat → Value) (listed : Array Bool) (t : Array Value) : Prop where
  size : t.size = base.size
  on : ∀ j s, listed.getD j false = true → dstOf ops j = some s → t[s]? = some (val j)
  off : ∀ s, (∀ j, listed.getD j false = true → dstOf ops j ≠ some s) → t[s]? = base[s]?
theorem FrD.get (h : FrD ops base val listed t) (hl : listed.getD j false = true) (hd : dstOf ops j = some s) : t.getD s undef = val j := by
  rw [Array.getD_eq_getD_getElem?, h.on j s hl hd]; rfl
theorem FrD.low (h : FrD ops base val listed t) (hd : ∀ j, dstOf ops j ≠ some s) : t.getD s undef = base.getD s undef := by
  rw [Array.getD_eq_getD_getElem?, h.off s fun j _ => hd j, Array.getD_eq_getD_getElem?]
theorem FrD.start : FrD ops base val (Array.replicate ops.size false) base := ⟨rfl, fun j s hl _ => by
  exfalso
  rw [Array.getD_eq_getD_getElem?, Array.getElem?_replicate] at hl
  split at hl <;> simp at hl, fun s _ => rfl⟩
theorem FrD.put (h : FrD ops base val listed t) (ha : ApartD ops base.size) (hi : i < listed.size) : FrD ops base val (listed.setIfInBounds i true) ((⟨t, []⟩ : Act).put (dstOf ops i) (val i)).tmps := by
  cases hd : dstOf ops i with
  | none =>
    simp only [Act.put]
    refine ⟨h.size, fun j s hl hj => ?_, fun s hs => h.off s fun j hl => ?_⟩
    · rw [getD_setT _ _ _ _ hi] at hl
      by_cases e : j = i
      · subst e; rw [hd] at hj; cases hj
      · rw [if_neg e] at hl; exact h.on j s hl hj
    · refine hs j ?_
      rw [getD_setT _ _ _ _ hi]
      split
      · rfl
      · exact hl
  | some d =>
    have hdl := ha.low i d hd
    simp only [Act.put]
    refine ⟨by simpa using h.size, fun j s hl hj => ?_, fun s hs => ?_⟩
    · rw [getD_setT _ _ _ _ hi] at hl
      rw [Array.getElem?_setIfInBounds]
      by_cases e : j = i
      · subst e
        rw [hd] at hj
        obtain rfl := Option.some.inj hj
        rw [if_pos rfl, if_pos (by rw [h.size]; exact hdl)]
      · rw [if_neg e] at hl
        have hne : d ≠ s := fun e' => e (ha.one j i s hj (by rw [hd, e']))
        rw [if_neg hne]
        exact h.on j s hl hj
    · have hne : d ≠ s := fun e' => hs i (by rw [getD_setT _ _ _ _ hi, if_pos rfl]) (by rw [hd, e'])
      rw [Array.getElem?_setIfInBounds, if_neg hne]
      refine h.off s fun j hl => hs j ?_
      rw [getD_setT _ _ _ _ hi]
      split
      · rfl
      · exact hl
theorem FrD.unique (h : FrD ops base val listed t) (h' : FrD ops base val listed t') : t = t' := by
  refine Array.ext_getElem? fun s => ?_
  by_cases e : ∃ j, listed.getD j false = true ∧ dstOf ops j = some s
  · obtain ⟨j, h1, h2⟩ := e
    rw [h.on j s h1 h2, h'.on j s h1 h2]
  · have e : ∀ j, listed.getD j false = true → dstOf ops j ≠ some s := fun j h1 h2 => e ⟨j, h1, h2⟩
    rw [h.off s e, h'.off s e]
/-- The frame behind it all. -/
def allPut (ops : Array Oper) (base : Array Value) (val : Nat → Value) : Nat → Array Value
  | 0 => base
  | k + 1 => ((⟨allPut ops base val k, []⟩ : Act).put (dstOf ops k) (val k)).tmps
def firstN (N : Nat) : Nat → Array Bool
  | 0 => Array.replicate N false
  | k + 1 => (firstN N k).setIfInBounds k true
theorem firstN_size (N : Nat) : ∀ k, (firstN N k).size = N
  | 0 => by simp [firstN]
  | k + 1 => by simp [firstN, firstN_size N k]
theorem firstN_get (N : Nat) : ∀ k, k ≤ N → ∀ j, (firstN N k).getD j false = decide (j < k)
  | 0, _, j => by
    simp only [firstN, Array.getD_eq_getD_getElem?, Array.getElem?_replicate]
    split <;> simp
  | k + 1, hk, j => by
    show ((firstN N k).setIfInBounds k true).getD j false = _
    rw [getD_setT _ _ _ _ (by rw [firstN_size]; omega), firstN_get N k (by omega) j]
    by_cases e : j = k
    · subst e; simp
    · rw [if_neg e]
      by_cases e2 : j < k
      · simp [e2, show j < k + 1 by omega]
      · simp [e2, show ¬ j < k + 1 by omega]
theorem FrD.first (ha : ApartD ops base.size) : ∀ k, k ≤ ops.size → FrD ops base val (firstN ops.size k) (allPut ops base val k)
  | 0, _ => FrD.start
  | k + 1, hk => FrD.put (FrD.first ha k (by omega)) ha (by rw [firstN_size]; omega)
theorem FrD.all (h : FrD ops base val listed t) (ha : ApartD ops base.size) (hs : listed.size = ops.size) (hl : ∀ i, i < ops.size → listed.getD i true = true) : t = allPut ops base val ops.size := by
  have e : listed = firstN ops.size ops.size := by
    refine Array.ext (by rw [hs, firstN_size]) fun i h1 h2 => ?_
    have q1 := hl i (by omega)
    have q2 := firstN_get ops.size ops.size (Nat.le_refl _) i
    rw [Array.getD_eq_getD_getElem?, Array.getElem?_eq_getElem h1] at q1
    rw [Array.getD_eq_getD_getElem?, Array.getElem?_eq_getElem h2] at q2
    simp only [Option.getD_some] at q1 q2
    rw [q1, q2]
    simp [show i < ops.size by omega]
  subst e
  exact h.unique (FrD.first ha ops.size (Nat.le_refl _))
/-- .. told by looking. -/
def apartB (ops : Array Oper) (N : Nat) : Bool := (List.range ops.size).all fun j => match dstOf ops j with
  | none => true
  | some s => decide (s < N) && (List.range ops.size).all fun j' => j' == j || dstOf ops j' != some s
theorem apart_of {N : Nat} (h : apartB ops N = true) : ApartD ops N := by
  have lt : ∀ j s, dstOf ops j = some s → j < ops.size := fun j s hj => by
    unfold dstOf at hj
    by_cases e : j < ops.size
    · exact e
    · rw [Array.getElem?_eq_none (by omega)] at hj
      cases hj
  have key : ∀ j s, dstOf ops j = some s → s < N ∧ ∀ j', j' < ops.size → j' = j ∨ dstOf ops j' ≠ some s := fun j s hj => by
    have h1 := List.all_eq_true.1 h j (List.mem_range.2 (lt j s hj))
    rw [hj] at h1
    simp only [Bool.and_eq_true, decide_eq_true_eq] at h1
    refine ⟨h1.1, fun j' hj' => ?_⟩
    have h2 := List.all_eq_true.1 h1.2 j' (List.mem_range.2 hj')
    simpa using h2
  exact ⟨fun j j' s h1 h2 => (((key j s h1).2 j' (lt j' s h2)).resolve_right fun h => h h2).symm, fun j s h1 => (key j s h1).1⟩
end
end Go.Proofs.Ytmcffabfghhpaaa
/- Plain words: what a region that draws has done. No condition. -/
namespace Go.Proofs.Ytmcffabfghhpaaa
open Go.Conc Go.RowKit
section
variable {ops : Array Oper} {base t : Array Value} {val : Nat → Value} {listed : Array Bool} {s : Nat}
def noDst (ops : Array Oper) (s : Nat) : Bool := (List.range ops.size).all fun j => dstOf ops j != some s
theorem FrD.ground (h : FrD ops base val listed t) (hd : noDst ops s = true) : t.getD s undef = base.getD s undef := h.low fun j hj => by
  have lt : j < ops.size := by
    unfold dstOf at hj
    by_cases e : j < ops.size
    · exact e
    · rw [Array.getElem?_eq_none (by omega)] at hj; cases hj
  have := List.all_eq_true.1 hd j (List.mem_range.2 lt)
  rw [hj] at this
  simp at this
theorem getD_false {i : Nat} (h : listed.getD i true = false) : listed.getD i false = false := by
  have := getD_low h
  rw [Array.getD_eq_getD_getElem?] at h ⊢
  rw [Array.getElem?_eq_getElem this] at h ⊢
  exact h
theorem getD_true {i : Nat} (h : listed.getD i false = true) : listed.getD i true = true := by
  rw [Array.getD_eq_getD_getElem?] at h ⊢
  cases hl : listed[i]? with
  | none => rfl
  | some b => rw [hl] at h; exact h
theorem FrD.put' {i : Nat} {d : Option Nat} {v : Value} (h : FrD ops base val listed t) (ha : ApartD ops base.size) (hi : i < listed.size) (hd : dstOf ops i = d) (hv : val i = v) : FrD ops base val (listed.setIfInBounds i true) ((⟨t, []⟩ : Act).put d v).tmps := by
  subst hd hv
  exact h.put ha hi
/-- One operation waits for another. -/
def needs (ops : Array Oper) (j i : Nat) : Bool := match ops[j]? with
  | some o => o.after.any fun e => e.on == i && Region.binds .any e
  | none => false
theorem Closed.need {i j : Nat} (h : Closed .any ops listed) (hn : needs ops j i = true) (hl : listed.getD j false = true) : listed.getD i false = true := by
  unfold needs at hn
  cases ho : ops[j]? with
  | none => rw [ho] at hn; cases hn
  | some o =>
    rw [ho] at hn
    obtain ⟨q, hq, h2⟩ := Array.any_eq_true.1 hn
    have he := Array.getElem_mem hq
    obtain ⟨e, hee⟩ : ∃ e, e = o.after[q] := ⟨_, rfl⟩
    rw [← hee] at he h2
    simp only [Bool.and_eq_true, beq_iff_eq] at h2
    rw [← h2.1]
    exact h j o ho hl e he h2.2
theorem getD_setNe {i j : Nat} (hi : i < listed.size) (h : j ≠ i) : (listed.setIfInBounds i true).getD j false = listed.getD j false := by
  rw [getD_setT _ _ _ _ hi, if_neg h]
theorem getD_setEq {i : Nat} (hi : i < listed.size) : (listed.setIfInBounds i true).getD i false = true := by
  rw [getD_setT _ _ _ _ hi, if_pos rfl]
theorem FrD.yield {j : Nat} {b : Bool} (h : FrD ops base val listed t) (hl : listed.getD j false = true) (hd : dstOf ops j = some s) (hv : val j = .bool b) : yielded ops t j = some b := by
  unfold yielded
  unfold dstOf at hd
  rw [hd]
  show (match t[s]? with | some (.bool b) => some b | _ => none) = _
  rw [h.on j s hl hd, hv]
theorem FrD.congr {val' : Nat → Value} (h : FrD ops base val listed t) (he : ∀ j, listed.getD j false = true → val j = val' j) : FrD ops base val' listed t :=
  ⟨h.size, fun j s hl hd => by rw [← he j hl]; exact h.on j s hl hd, h.off⟩
/-- Whoever the last one waits for, and they, .. -/
def reach (ops : Array Oper) (last : Nat) : Nat → List Nat → List Nat
  | 0, l => l
  | n + 1, l => reach ops last n (l ++ (List.range ops.size).filter fun i => !l.contains i && l.any fun j => needs ops j i)
theorem Closed.reach (h : Closed .any ops listed) (last : Nat) (hl : listed.getD last false = true) : ∀ (n : Nat) (l : List Nat), (∀ j ∈ l, listed.getD j false = true) → ∀ j ∈ Go.Proofs.Ytmcffabfghhpaaa.reach ops last n l, listed.getD j false = true
  | 0, l, hall => hall
  | n + 1, l, hall => Closed.reach h last hl n _ fun j hj => by
    rcases List.mem_append.1 hj with hj | hj
    · exact hall j hj
    · obtain ⟨_, hj⟩ := List.mem_filter.1 hj
      simp only [Bool.and_eq_true, List.any_eq_true] at hj
      obtain ⟨_, q, hq, hn⟩ := hj
      exact h.need hn (hall q hq)
/-- When the last one is done, all are. -/
theorem Closed.last (h : Closed .any ops listed) {last n i : Nat} (hl : listed.getD last false = true) (hi : (Go.Proofs.Ytmcffabfghhpaaa.reach ops last n [last]).contains i = true) : listed.getD i true = true := getD_true (h.reach last hl n [last] (fun j hj => by
  rw [List.mem_singleton.1 hj]; exact hl) i (by simpa using hi))
end
end Go.Proofs.Ytmcffabfghhpaaa
/- Plain words: a thread of StackOnce, from its start to its end. No condition. -/
namespace Go.Proofs.Ytmcffabfghhpaaa
open Go.Conc Go.RowKit
/-- What StackOnce's threads find in memory. -/
structure OnceOld (old : Old) (S m : Nat) (bk : Nat → Nat) (l : Nat → List Bool) (xb sb lb G gc R lc : Nat) (kb : Nat → Nat) (ea : Nat → Option Addr) (ec : Nat → Nat) : Prop where
  xb : old.cell ⟨xb, 0, none⟩ (.slice (some ⟨G, 0, none⟩) m gc)
  gk : ∀ k, k < m → old.cell ⟨G, k, none⟩ (.pointer (some ⟨bk k, 0, none⟩))
  kb : ∀ k, k < m → old.cell ⟨kb k, 0, none⟩ (.int .i64 k)
  sb : old.cell ⟨sb, 0, none⟩ (.pointer (some ⟨S, 0, none⟩))
  lb : old.cell ⟨lb, 0, none⟩ (.slice (some ⟨R, 0, none⟩) m lc)
  rk : ∀ k, k < m → old.cell ⟨R, k, none⟩ (.slice (ea k) (l k).length (ec k))
  le : ∀ k, k < m → ∀ i (h : i < (l k).length), ∃ eb eo, ea k = some ⟨eb, eo, none⟩ ∧ old.cell ⟨eb, eo + i, none⟩ (.bool (l k)[i])
/-- The thread's only region. -/
noncomputable def onceOps : Array Oper := match (Try.f41.body.getD .skip) with
  | .region _ ops _ => ops
  | .seq (.region _ ops _) _ => ops
  | _ => #[]
theorem once_size : onceOps.size = 13 := by kernel_rfl
theorem once_up : upward .any id onceOps = true := by kernel_rfl
theorem once_apart : ApartD onceOps 19 := apart_of (by kernel_rfl)
section
variable {B : Nat} {bk : Nat → Nat} {l : Nat → List Bool} {S N sz m : Nat} {old : Old} {xb sb lb G gc R lc : Nat} {kb : Nat → Nat} {ea : Nat → Option Addr} {ec : Nat → Nat}
def onceVal (S m : Nat) (bk : Nat → Nat) (l : Nat → List Bool) (G gc R lc : Nat) (ea : Nat → Option Addr) (ec : Nat → Nat) (s : SV) (k : Nat) : Nat → Value
  | 0 => .slice (some ⟨G, 0, none⟩) m gc
  | 1 => .int .i64 k
  | 2 => .pointer (some ⟨G, k, none⟩)
  | 3 => .pointer (some ⟨bk k, 0, none⟩)
  | 4 => .pointer (some ⟨S, 0, none⟩)
  | 5 => seatGate s
  | 6 => .int .i64 k
  | 7 => .int .u64 k
  | 8 => .slice (some ⟨R, 0, none⟩) m lc
  | 9 => .int .i64 k
  | 10 => .pointer (some ⟨R, k, none⟩)
  | 11 => .slice (ea k) (l k).length (ec k)
  | 12 => .tuple #[]
  | _ => undef
set_option maxRecDepth 100000 in
set_option maxHeartbeats 8000000 in
theorem once_thr {k : Nat} (hm : OnceOld old S m bk l xb sb lb G gc R lc kb ea ec) (hk : k < m) (hm4 : m ≤ 4) (hlen : ∀ k, k < m → (l k).length ≤ 100) {g0 : Value × Value × Nat} (hg0 : g0.2.2 = 0) :
    ThrC (bK B bk l S N sz m old).core k g0 41 #[.pointer (some ⟨xb, 0, none⟩), .pointer (some ⟨kb k, 0, none⟩), .pointer (some ⟨sb, 0, none⟩), .pointer (some ⟨lb, 0, none⟩)] (fun σ => (σ, bookF l k 0)) where
  fn := ⟨_, _, Try.func41, by kernel_rfl, rfl⟩
  tid := fun a p h => by
    obtain ⟨q, _, rfl⟩ := Option.map_eq_some_iff.1 h
    rfl
  run := fun Wg s θ n1 w a o E hs ho hSh hw hr hg hE => by
    obtain ⟨⟨a, b⟩, γ⟩ := a
    have O := envT_ok (bK B bk l S N sz m old).core.spec Wg (WgL Wg) s
    have h : TK (bK B bk l S N sz m old) Wg s k (n1, E, θ) a (b, γ) ((a, b), bookF l k 0) w := ⟨hs, ho, hSh, hw, o, hr, hE⟩
    clear hs ho hSh hw hr hE
    have h4 : k < 4 := by omega
    have hg : γ k = g0 := hg
    have hc0 : (γ k).2.2 = 0 := by rw [hg]; exact hg0
    refine cpsC_body O Try.func41 rfl ?_
    simp only [Try.ntmps41]
    refine cps_opaque fun Q' hQ => ?_
    walk_nrm
    have apt := once_apart
    have hs13 := once_size
    have k0 : (0 : Int) ≤ (k : Int) := by omega
    have k1 : (k : Int) < (m : Int) := by omega
    have kw := wrap_u64 (k : Int) (by omega) (by omega)
    change cps _ (.region 0 onceOps true) _ _ _ _
    refine cps_ord O (by kernel_rfl) once_up (fun listed n' t w' => FrD onceOps #[seatGate s, .pointer (some ⟨xb, 0, none⟩), .pointer (some ⟨kb k, 0, none⟩), .pointer (some ⟨sb, 0, none⟩), .pointer (some ⟨lb, 0, none⟩), undef, undef, undef, undef, undef, undef, undef, undef, undef, undef, undef, undef, undef, undef] (onceVal S m bk l G gc R lc ea ec s k) listed t ∧ (listed.getD 12 false = false → TK (bK B bk l S N sz m old) Wg s k n' a (b, γ) ((a, b), bookF l k 0) w') ∧ (listed.getD 12 false = true → ∃ a' b' γ', TK (bK B bk l S N sz m old) Wg s k n' a' (b', γ') ((a', b'), none) w')) ?_ ?_ ⟨FrD.start, fun _ => h, fun h12 => by exfalso; revert h12; rw [hs13]; decide⟩
    intro listed i0 o l' m' t w' hsz ho hl hr hcl ⟨hF, hT, hD⟩ hk2
    have hlt := (Array.getElem?_eq_some_iff.1 ho).1
    rw [hs13] at hlt
    have hcase : i0 = 0 ∨ i0 = 1 ∨ i0 = 2 ∨ i0 = 3 ∨ i0 = 4 ∨ i0 = 5 ∨ i0 = 6 ∨ i0 = 7 ∨ i0 = 8 ∨ i0 = 9 ∨ i0 = 10 ∨ i0 = 11 ∨ i0 = 12 := by omega
    have ho2 := ho
    simp only [onceOps, Try.f41, Option.getD_some] at ho2
    clear hQ h
    rcases hcase with rfl | rfl | rfl | rfl | rfl | rfl | rfl | rfl | rfl | rfl | rfl | rfl | rfl
    · obtain rfl := Option.some.inj ho2
      clear ho2
      have e0 : t.getD 1 undef = .pointer (some ⟨xb, 0, none⟩) := hF.ground (by kernel_rfl)
      have hT := hT (by cases h12 : listed.getD 12 false with
        | false => rfl
        | true => have := hcl.last (n := 13) (i := 0) h12 (by kernel_rfl); rw [hl] at this; cases this)
      refine readO hT (.slice (some ⟨G, 0, none⟩) m gc) ho (by kernel_rfl) rfl (fun u hin => ?_) fun w2 hT2 => hk2 _ _ _ ⟨hF.put' apt (getD_low hl) (show dstOf onceOps 0 = some 6 by kernel_rfl) rfl, fun _ => hT2, fun h12 => by rw [getD_setNe (getD_low hl) (by decide)] at h12; have := hcl.last (n := 13) (i := 0) h12 (by kernel_rfl); rw [hl] at this; cases this⟩
      have hcl := hin.cell (hm.xb)
      simp only [execOp, Act.eval, e0]
      go_simp
    · obtain rfl := Option.some.inj ho2
      clear ho2
      have e0 : t.getD 2 undef = .pointer (some ⟨kb k, 0, none⟩) := hF.ground (by kernel_rfl)
      have hT := hT (by cases h12 : listed.getD 12 false with
        | false => rfl
        | true => have := hcl.last (n := 13) (i := 1) h12 (by kernel_rfl); rw [hl] at this; cases this)
      refine readO hT (.int .i64 k) ho (by kernel_rfl) rfl (fun u hin => ?_) fun w2 hT2 => hk2 _ _ _ ⟨hF.put' apt (getD_low hl) (show dstOf onceOps 1 = some 7 by kernel_rfl) rfl, fun _ => hT2, fun h12 => by rw [getD_setNe (getD_low hl) (by decide)] at h12; have := hcl.last (n := 13) (i := 1) h12 (by kernel_rfl); rw [hl] at this; cases this⟩
      have hcl := hin.cell (hm.kb k hk)
      simp only [execOp, Act.eval, e0]
      go_simp
    · obtain rfl := Option.some.inj ho2
      clear ho2
      have e0 : t.getD 6 undef = .slice (some ⟨G, 0, none⟩) m gc := hF.get (hr ⟨0, .data⟩ (by simp) rfl) (by kernel_rfl)
      have e1 : t.getD 7 undef = .int .i64 k := hF.get (hr ⟨1, .data⟩ (by simp) rfl) (by kernel_rfl)
      have hT := hT (by cases h12 : listed.getD 12 false with
        | false => rfl
        | true => have := hcl.last (n := 13) (i := 2) h12 (by kernel_rfl); rw [hl] at this; cases this)
      refine valE O rfl (.pointer (some ⟨G, k, none⟩)) ho rfl (fun _ => ?_) (fun _ => ?_) (hk2 _ _ _ ⟨hF.put' apt (getD_low hl) (show dstOf onceOps 2 = some 8 by kernel_rfl) rfl, fun _ => hT, fun h12 => by rw [getD_setNe (getD_low hl) (by decide)] at h12; have := hcl.last (n := 13) (i := 2) h12 (by kernel_rfl); rw [hl] at this; cases this⟩)
      · simp [go_sem, execOp, Act.eval, *]
      · simp only [execOp, Act.eval, *]; go_simp
    · obtain rfl := Option.some.inj ho2
      clear ho2
      have e0 : t.getD 8 undef = .pointer (some ⟨G, k, none⟩) := hF.get (hr ⟨2, .data⟩ (by simp) rfl) (by kernel_rfl)
      have hT := hT (by cases h12 : listed.getD 12 false with
        | false => rfl
        | true => have := hcl.last (n := 13) (i := 3) h12 (by kernel_rfl); rw [hl] at this; cases this)
      refine readO hT (.pointer (some ⟨bk k, 0, none⟩)) ho (by kernel_rfl) rfl (fun u hin => ?_) fun w2 hT2 => hk2 _ _ _ ⟨hF.put' apt (getD_low hl) (show dstOf onceOps 3 = some 9 by kernel_rfl) rfl, fun _ => hT2, fun h12 => by rw [getD_setNe (getD_low hl) (by decide)] at h12; have := hcl.last (n := 13) (i := 3) h12 (by kernel_rfl); rw [hl] at this; cases this⟩
      have hcl := hin.cell (hm.gk k hk)
      simp only [execOp, Act.eval, e0]
      go_simp
    · obtain rfl := Option.some.inj ho2
      clear ho2
      have e0 : t.getD 3 undef = .pointer (some ⟨sb, 0, none⟩) := hF.ground (by kernel_rfl)
      have hT := hT (by cases h12 : listed.getD 12 false with
        | false => rfl
        | true => have := hcl.last (n := 13) (i := 4) h12 (by kernel_rfl); rw [hl] at this; cases this)
      refine readO hT (.pointer (some ⟨S, 0, none⟩)) ho (by kernel_rfl) rfl (fun u hin => ?_) fun w2 hT2 => hk2 _ _ _ ⟨hF.put' apt (getD_low hl) (show dstOf onceOps 4 = some 10 by kernel_rfl) rfl, fun _ => hT2, fun h12 => by rw [getD_setNe (getD_low hl) (by decide)] at h12; have := hcl.last (n := 13) (i := 4) h12 (by kernel_rfl); rw [hl] at this; cases this⟩
      have hcl := hin.cell (hm.sb)
      simp only [execOp, Act.eval, e0]
      go_simp
    · obtain rfl := Option.some.inj ho2
      clear ho2
      have e0 : t.getD 0 undef = seatGate s := hF.ground (by kernel_rfl)
      have hT := hT (by cases h12 : listed.getD 12 false with
        | false => rfl
        | true => have := hcl.last (n := 13) (i := 5) h12 (by kernel_rfl); rw [hl] at this; cases this)
      refine valE O rfl (seatGate s) ho rfl (fun _ => ?_) (fun _ => ?_) (hk2 _ _ _ ⟨hF.put' apt (getD_low hl) (show dstOf onceOps 5 = some 11 by kernel_rfl) rfl, fun _ => hT, fun h12 => by rw [getD_setNe (getD_low hl) (by decide)] at h12; have := hcl.last (n := 13) (i := 5) h12 (by kernel_rfl); rw [hl] at this; cases this⟩)
      · simp [go_sem, execOp, Act.eval, *]
      · simp only [execOp, Act.eval, *]; go_simp
    · obtain rfl := Option.some.inj ho2
      clear ho2
      have e0 : t.getD 2 undef = .pointer (some ⟨kb k, 0, none⟩) := hF.ground (by kernel_rfl)
      have hT := hT (by cases h12 : listed.getD 12 false with
        | false => rfl
        | true => have := hcl.last (n := 13) (i := 6) h12 (by kernel_rfl); rw [hl] at this; cases this)
      refine readO hT (.int .i64 k) ho (by kernel_rfl) rfl (fun u hin => ?_) fun w2 hT2 => hk2 _ _ _ ⟨hF.put' apt (getD_low hl) (show dstOf onceOps 6 = some 12 by kernel_rfl) rfl, fun _ => hT2, fun h12 => by rw [getD_setNe (getD_low hl) (by decide)] at h12; have := hcl.last (n := 13) (i := 6) h12 (by kernel_rfl); rw [hl] at this; cases this⟩
      have hcl := hin.cell (hm.kb k hk)
      simp only [execOp, Act.eval, e0]
      go_simp
    · obtain rfl := Option.some.inj ho2
      clear ho2
      have e0 : t.getD 12 undef = .int .i64 k := hF.get (hr ⟨6, .data⟩ (by simp) rfl) (by kernel_rfl)
      have hT := hT (by cases h12 : listed.getD 12 false with
        | false => rfl
        | true => have := hcl.last (n := 13) (i := 7) h12 (by kernel_rfl); rw [hl] at this; cases this)
      refine valE O rfl (.int .u64 k) ho rfl (fun _ => ?_) (fun _ => ?_) (hk2 _ _ _ ⟨hF.put' apt (getD_low hl) (show dstOf onceOps 7 = some 13 by kernel_rfl) rfl, fun _ => hT, fun h12 => by rw [getD_setNe (getD_low hl) (by decide)] at h12; have := hcl.last (n := 13) (i := 7) h12 (by kernel_rfl); rw [hl] at this; cases this⟩)
      · simp [go_sem, execOp, Act.eval, *]
      · simp only [execOp, Act.eval, *]; go_simp
    · obtain rfl := Option.some.inj ho2
      clear ho2
      have e0 : t.getD 4 undef = .pointer (some ⟨lb, 0, none⟩) := hF.ground (by kernel_rfl)
      have hT := hT (by cases h12 : listed.getD 12 false with
        | false => rfl
        | true => have := hcl.last (n := 13) (i := 8) h12 (by kernel_rfl); rw [hl] at this; cases this)
      refine readO hT (.slice (some ⟨R, 0, none⟩) m lc) ho (by kernel_rfl) rfl (fun u hin => ?_) fun w2 hT2 => hk2 _ _ _ ⟨hF.put' apt (getD_low hl) (show dstOf onceOps 8 = some 14 by kernel_rfl) rfl, fun _ => hT2, fun h12 => by rw [getD_setNe (getD_low hl) (by decide)] at h12; have := hcl.last (n := 13) (i := 8) h12 (by kernel_rfl); rw [hl] at this; cases this⟩
      have hcl := hin.cell (hm.lb)
      simp only [execOp, Act.eval, e0]
      go_simp
    · obtain rfl := Option.some.inj ho2
      clear ho2
      have e0 : t.getD 2 undef = .pointer (some ⟨kb k, 0, none⟩) := hF.ground (by kernel_rfl)
      have hT := hT (by cases h12 : listed.getD 12 false with
        | false => rfl
        | true => have := hcl.last (n := 13) (i := 9) h12 (by kernel_rfl); rw [hl] at this; cases this)
      refine readO hT (.int .i64 k) ho (by kernel_rfl) rfl (fun u hin => ?_) fun w2 hT2 => hk2 _ _ _ ⟨hF.put' apt (getD_low hl) (show dstOf onceOps 9 = some 15 by kernel_rfl) rfl, fun _ => hT2, fun h12 => by rw [getD_setNe (getD_low hl) (by decide)] at h12; have := hcl.last (n := 13) (i := 9) h12 (by kernel_rfl); rw [hl] at this; cases this⟩
      have hcl := hin.cell (hm.kb k hk)
      simp only [execOp, Act.eval, e0]
      go_simp
    · obtain rfl := Option.some.inj ho2
      clear ho2
      have e0 : t.getD 14 undef = .slice (some ⟨R, 0, none⟩) m lc := hF.get (hr ⟨8, .data⟩ (by simp) rfl) (by kernel_rfl)
      have e1 : t.getD 15 undef = .int .i64 k := hF.get (hr ⟨9, .data⟩ (by simp) rfl) (by kernel_rfl)
      have hT := hT (by cases h12 : listed.getD 12 false with
        | false => rfl
        | true => have := hcl.last (n := 13) (i := 10) h12 (by kernel_rfl); rw [hl] at this; cases this)
      refine valE O rfl (.pointer (some ⟨R, k, none⟩)) ho rfl (fun _ => ?_) (fun _ => ?_) (hk2 _ _ _ ⟨hF.put' apt (getD_low hl) (show dstOf onceOps 10 = some 16 by kernel_rfl) rfl, fun _ => hT, fun h12 => by rw [getD_setNe (getD_low hl) (by decide)] at h12; have := hcl.last (n := 13) (i := 10) h12 (by kernel_rfl); rw [hl] at this; cases this⟩)
      · simp [go_sem, execOp, Act.eval, *]
      · simp only [execOp, Act.eval, *]; go_simp
    · obtain rfl := Option.some.inj ho2
      clear ho2
      have e0 : t.getD 16 undef = .pointer (some ⟨R, k, none⟩) := hF.get (hr ⟨10, .data⟩ (by simp) rfl) (by kernel_rfl)
      have hT := hT (by cases h12 : listed.getD 12 false with
        | false => rfl
        | true => have := hcl.last (n := 13) (i := 11) h12 (by kernel_rfl); rw [hl] at this; cases this)
      refine readO hT (.slice (ea k) (l k).length (ec k)) ho (by kernel_rfl) rfl (fun u hin => ?_) fun w2 hT2 => hk2 _ _ _ ⟨hF.put' apt (getD_low hl) (show dstOf onceOps 11 = some 17 by kernel_rfl) rfl, fun _ => hT2, fun h12 => by rw [getD_setNe (getD_low hl) (by decide)] at h12; have := hcl.last (n := 13) (i := 11) h12 (by kernel_rfl); rw [hl] at this; cases this⟩
      have hcl := hin.cell (hm.rk k hk)
      simp only [execOp, Act.eval, e0]
      go_simp
    · obtain rfl := Option.some.inj ho2
      clear ho2
      have e0 : t.getD 9 undef = .pointer (some ⟨bk k, 0, none⟩) := hF.get (hr ⟨3, .data⟩ (by simp) rfl) (by kernel_rfl)
      have e1 : t.getD 10 undef = .pointer (some ⟨S, 0, none⟩) := hF.get (hr ⟨4, .data⟩ (by simp) rfl) (by kernel_rfl)
      have e2 : t.getD 11 undef = seatGate s := hF.get (hr ⟨5, .data⟩ (by simp) rfl) (by kernel_rfl)
      have e3 : t.getD 13 undef = .int .u64 k := hF.get (hr ⟨7, .data⟩ (by simp) rfl) (by kernel_rfl)
      have e4 : t.getD 17 undef = .slice (ea k) (l k).length (ec k) := hF.get (hr ⟨11, .data⟩ (by simp) rfl) (by kernel_rfl)
      have hT := hT (getD_false hl)
      refine callE O rfl (f := 18) (vals := #[.pointer (some ⟨bk k, 0, none⟩), .pointer (some ⟨S, 0, none⟩), seatGate s, .int .u64 k, .slice (ea k) (l k).length (ec k)]) ho rfl rfl Try.func18 rfl rfl (by simp only [List.map_cons, List.map_nil, Act.eval, e0, e1, e2, e3, e4]) ?_
      refine works_t hk h4 (hlen k hk) (hm.le k hk) hT hc0 fun n2 a2 b2 γ2 w2 h2 => ?_
      exact hk2 _ _ _ ⟨hF.put' apt (getD_low hl) (show dstOf onceOps 12 = some 18 by kernel_rfl) rfl, (fun h12 => by rw [getD_setEq (getD_low hl)] at h12; cases h12), fun _ => ⟨a2, b2, γ2, h2⟩⟩
    intro listed n' t w' hsz hall ⟨hF, hT, hD⟩
    have h12 : listed.getD 12 false = true := by
      have h1 := hall 12 (by rw [hs13]; decide)
      rw [Array.getD_eq_getD_getElem?] at h1 ⊢
      rw [Array.getElem?_eq_getElem (by rw [hsz, hs13]; decide)] at h1 ⊢
      exact h1
    obtain ⟨a', b', γ', h'⟩ := hD h12
    exact cpsR_nil O (hQ _ _ _ _ ⟨.inl rfl, .tuple #[], ret0E O rfl rfl, h'.done⟩)
end
end Go.Proofs.Ytmcffabfghhpaaa
/- Plain words: goroutine 0's own Push and Pop. No condition. -/
namespace Go.Proofs.Ytmcffabfghhpaaa
open Go.Conc Go.RowKit
instance ho_srep {S N n : Nat} {a : SSt} : HO (SRep S N n a) := ho_rep (J := stkJob S N n)
section
variable {W : Machine → Trace → Prop} {x : LX} {w : World} {S N n : Nat} {a : SSt} {g : Value} {G : List (Int × Int) → World → Prop} {M : World → Prop} {L : List (Int × Int)} {f : SSt × SRes × List (Int × Int)} {k : Nat}
theorem pop_l (H : Gate0 (stkJob S N n) W x g G M) (h : Kn x (fun u => SRep S N n a u ∧ G L u ∧ M u) w) (hf : (stkJob S N n).fin k L (a, .inl (SPos.t1 0 .pop)) = some f) (hk : L.length + k < 1000000) {Q : LX → Value → World → Prop}
    (hq : ∀ w', Kn x (fun u => SRep S N n f.1 u ∧ G f.2.2 u ∧ M u) w' → Q x (.tuple #[.int .u64 f.2.1.num, .bool f.2.1.ok, .int .i64 0]) w') : cpsC (envL W) 14 #[.pointer (some ⟨S, 0, none⟩), g] Q x w :=
  pop_e (gated0 H f) (m := x) (k := k) (a := a) ⟨rfl, L, hf, hk, h⟩ (fun m' k' a' w' _ h' => by
    obtain ⟨e1, e2, e, h3⟩ := fin_at h'
    have := hq w' h3
    rw [← e] at this
    rw [e1]
    exact this) (fun m' k' a' w' y _ _ h' => by
    obtain ⟨e1, e2, e, h3⟩ := fin_at h'
    have := hq w' h3
    rw [← e] at this
    rw [e1]
    exact this)
theorem push_l (H : Gate0 (stkJob S N n) W x g G M) {v : Nat} (hv : v < 18446744073709551616) (h : Kn x (fun u => SRep S N n a u ∧ G L u ∧ M u) w) (hf : (stkJob S N n).fin k L (a, .inl (SPos.t1 1 (.push v))) = some f) (hk : L.length + k < 1000000) {Q : LX → Value → World → Prop}
    (hq : ∀ w', Kn x (fun u => SRep S N n f.1 u ∧ G f.2.2 u ∧ M u) w' → Q x (.tuple #[.bool f.2.1.ok, .int .i64 0]) w') : cpsC (envL W) 13 #[.pointer (some ⟨S, 0, none⟩), g, .int .u64 v] Q x w :=
  push_e (gated0 H f) hv (m := x) (k := k) (a := a) ⟨rfl, L, hf, hk, h⟩ (fun m' k' a' w' _ h' => by
    obtain ⟨e1, e2, e, h3⟩ := fin_at h'
    have := hq w' h3
    rw [← e] at this
    rw [e1]
    exact this) (fun m' k' a' w' _ h' => by
    obtain ⟨e1, e2, e, h3⟩ := fin_at h'
    have := hq w' h3
    rw [← e] at this
    rw [e1]
    exact this)
end
end Go.Proofs.Ytmcffabfghhpaaa
/- Marks and SameMarks, walked alone. -/
namespace Go.Proofs.Ytmcffabfghhpaaa
open Go.RowKit
set_option linter.unusedVariables false

theorem mks_get0 (L : List (Int × Int)) (k : Nat) (h : k < L.length) : (mks L)[2 * k]? = some (.int .u8 L[k].1) := by
  induction L generalizing k with
  | nil => simp at h
  | cons a l ih =>
    cases k with
    | zero => rfl
    | succ k =>
      have := ih k (by simpa using h)
      rw [show 2 * (k + 1) = 2 * k + 1 + 1 from by omega]
      simpa [mks] using this
theorem mks_get1 (L : List (Int × Int)) (k : Nat) (h : k < L.length) : (mks L)[2 * k + 1]? = some (.int .i64 L[k].2) := by
  induction L generalizing k with
  | nil => simp at h
  | cons a l ih =>
    cases k with
    | zero => rfl
    | succ k =>
      have := ih k (by simpa using h)
      rw [show 2 * (k + 1) + 1 = 2 * k + 1 + 1 + 1 from by omega]
      simpa [mks] using this

set_option maxHeartbeats 800000 in
theorem sameMarks_c (va vb : Value) (La Lb : List (Int × Int)) (w : World) (ha : w.ownsRow 0 110 2 va La.length (mks La)) (hb : w.ownsRow 0 110 2 vb Lb.length (mks Lb)) (hla : La.length < 1000000) :
    Calls Try.prog 36 #[va, vb] w fun e w' => e = .returned (.bool (decide (La = Lb))) ∧ Sm (fun _ => False) w w' := by
  obtain ⟨aa, ca, rfl⟩ := own_form0 ha
  obtain ⟨ab, cb, rfl⟩ := own_form0 hb
  by_cases hne : La.length = Lb.length
  · have hlt : (((La.length : Nat) : Int) != ((Lb.length : Nat) : Int)) = false := by simp [hne]
    have HNE := Lib.hid hne
    clear hne
    go_enter Try.func36, Try.ntmps36
    go_wp2
    clear hlt
    go_loopw [5] (fun s5 wr => ∃ k : Nat, k ≤ La.length ∧ s5 = .int .i64 k ∧ Hid (La.take k = Lb.take k) ∧ Sm (fun _ => False) w wr) (fun s5 _ => La.length - (intOf s5).toNat)
    case atStart => exact ⟨0, by omega, rfl, Lib.hid (by simp), Sm.refl _ _⟩
    case round =>
      obtain ⟨k, hk, rfl, hT, hS⟩ := hrel
      by_cases hlt : k < La.length
      · have hltb : k < Lb.length := by rw [← HNE.out]; exact hlt
        obtain ⟨ga, ca', hfa⟩ := own_form ha (by omega)
        obtain ⟨gb, cb', hfb⟩ := own_form hb (by omega)
        simp only [Value.slice.injEq] at hfa hfb
        obtain ⟨rfl, -, -⟩ := hfa
        obtain ⟨rfl, -, -⟩ := hfb
        have ha' := own_sm ha hS (fun _ _ h => h)
        have hb' := own_sm hb hS (fun _ _ h => h)
        have A0 : wr.cell? ⟨ga, k * 2, none⟩ = some (.int .u8 La[k].1) := by
          rw [ha'.cellAt (k * 2) (by omega), Nat.mul_comm]; exact mks_get0 La k hlt
        have A1 : wr.cell? ⟨ga, k * 2 + 1, none⟩ = some (.int .i64 La[k].2) := by
          rw [ha'.cellAt (k * 2 + 1) (by omega), Nat.mul_comm]; exact mks_get1 La k hlt
        have B0 : wr.cell? ⟨gb, k * 2, none⟩ = some (.int .u8 Lb[k].1) := by
          rw [hb'.cellAt (k * 2) (by omega), Nat.mul_comm]; exact mks_get0 Lb k hltb
        have B1 : wr.cell? ⟨gb, k * 2 + 1, none⟩ = some (.int .i64 Lb[k].2) := by
          rw [hb'.cellAt (k * 2 + 1) (by omega), Nat.mul_comm]; exact mks_get1 Lb k hltb
        obtain ⟨x0, hx0⟩ : ∃ x, x = La[k].1 := ⟨_, rfl⟩
        obtain ⟨x1, hx1⟩ : ∃ x, x = La[k].2 := ⟨_, rfl⟩
        obtain ⟨y0, hy0⟩ : ∃ x, x = Lb[k].1 := ⟨_, rfl⟩
        obtain ⟨y1, hy1⟩ : ∃ x, x = Lb[k].2 := ⟨_, rfl⟩
        rw [← hx0] at A0
        rw [← hx1] at A1
        rw [← hy0] at B0
        rw [← hy1] at B1
        have X0 := Lib.hid hx0
        have X1 := Lib.hid hx1
        have Y0 := Lib.hid hy0
        have Y1 := Lib.hid hy1
        have HA := Lib.hid ha
        have HB := Lib.hid hb
        clear hx0 hx1 hy0 hy1 ha hb ha' hb'
        have i0 : (0 : Int) ≤ (k : Int) := by omega
        have i1 : (k : Int) < (La.length : Int) := by omega
        have i2 : (k : Int) < (Lb.length : Int) := by omega
        have hsucc : x0 = y0 → x1 = y1 → Hid (La.take (k + 1) = Lb.take (k + 1)) := by
          intro e0 e1
          have h := hT.out
          apply Lib.hid
          rw [List.take_succ_eq_append_getElem hlt, List.take_succ_eq_append_getElem hltb, h]
          have : La[k] = Lb[k] := Prod.ext (by rw [← X0.out, ← Y0.out, e0]) (by rw [← X1.out, ← Y1.out, e1])
          rw [this]
        have hdiff : ¬ (x0 = y0 ∧ x1 = y1) → decide (La = Lb) = false := by
          intro hn
          rw [decide_eq_false_iff_not]
          intro e
          subst e
          exact hn ⟨by rw [X0.out, Y0.out], by rw [X1.out, Y1.out]⟩
        have HSU := Lib.hid hsucc
        have HDI := Lib.hid hdiff
        clear hsucc hdiff
        by_cases e0 : x0 = y0
        · by_cases e1 : x1 = y1
          · have E0 := Lib.hid e0
            have E1 := Lib.hid e1
            rw [← e0] at B0
            rw [← e1] at B1
            clear e0 e1
            go_wp2
            go_quiet (fail)
            go_wp2
            go_roundw
            case rel => exact ⟨k + 1, by omega, by go_num, HSU.out E0.out E1.out, hS.drewN _⟩
            case measure => simp [intOf]; omega
          · have E1 : (x1 == y1) = false := by simp [e1]
            have E0 := Lib.hid e0
            have EN := Lib.hid e1
            rw [← e0] at B0
            clear e0 e1
            go_wp2
            go_quiet (fail)
            go_wp2
            go_ret
            exact ⟨ret_bool (HDI.out (fun h => EN.out h.2)).symm, hS.drewN _⟩
        · have E0 : (x0 == y0) = false := by simp [e0]
          have EN := Lib.hid e0
          clear e0
          go_wp2
          go_quiet (fail)
          go_wp2
          go_ret
          exact ⟨ret_bool (HDI.out (fun h => EN.out h.1)).symm, hS.drewN _⟩
      · have hk' : k = La.length := by omega
        have HK := Lib.hid hk'
        have i1 : ¬ ((k : Int) < (La.length : Int)) := by omega
        clear hk'
        go_wp2
        go_ret
        refine ⟨?_, hS⟩
        have : La = Lb := by
          have h := hT.out
          rw [HK.out, List.take_length, HNE.out, List.take_length] at h
          exact h
        exact ret_bool (decide_eq_true this).symm
  · have hlt : (((La.length : Nat) : Int) != ((Lb.length : Nat) : Int)) = true := by simp; omega
    have hd : decide (La = Lb) = false := by
      rw [decide_eq_false_iff_not]
      exact fun e => hne (by rw [e])
    rw [hd]
    clear hne
    go_enter Try.func36, Try.ntmps36
    go_wp2
    go_ret
    exact ⟨rfl, Sm.refl _ _⟩
set_option maxRecDepth 100000 in
set_option maxHeartbeats 800000 in
theorem clone_c (v : Value) (L : List (Int × Int)) (b0 : Nat) (w : World) (hv : w.ownsRow b0 110 2 v L.length (mks L)) (hL : L.length < 1000000) :
    Calls Try.prog 65 #[v] w fun e w' => ∃ v', e = .returned v' ∧ w'.ownsRow w.heap.size 110 2 v' L.length (mks L) ∧ Sm (fun _ => False) w w' := by
  obtain ⟨i0, hi, hz0, hz1, hz2⟩ := info_parts info_mark
  obtain ⟨hl, hv | ⟨g, cap, cur, rfl, hg, hh, hn, hc, hsz, ht⟩⟩ := hv
  · obtain ⟨rfl, h0⟩ := hv
    have hq := fun wx => Lib.run_eql_slice_nil (P := Try.prog) wx 65 110 none 0 0 0 0 Try.underlying65
    go_enter Try.func65, Try.ntmps65
    go_wp2
    go_ret
    have e : L = [] := List.eq_nil_of_length_eq_zero h0
    subst e
    exact ⟨_, rfl, World.ownsRow_nil _ _ _ _, Sm.refl _ _⟩
  · have hq := fun wx => Lib.run_eql_slice_nil (P := Try.prog) wx 65 110 (some ⟨g, 0, none⟩) L.length cap 0 0 Try.underlying65
    have HO : Hid (w.ownsRow b0 110 2 (.slice (some ⟨g, 0, none⟩) L.length cap) L.length (mks L)) := ⟨hl, .inr ⟨g, cap, cur, rfl, hg, hh, hn, hc, hsz, ht⟩⟩
    have Hi := Lib.hid hi
    have Hz0 := Lib.hid hz0
    have Hz1 := Lib.hid hz1
    have Hz2 := Lib.hid hz2
    clear hl hg hh hn hc hsz ht hi hz0 hz1 hz2
    go_enter Try.func65, Try.ntmps65
    have HC : Hid (∀ (j : Nat) (u : Value), (mks L)[j]? = some u → (w.alloc (Obj.cells #[] 110)).cell? ((⟨g, 0, none⟩ : Addr).add j) = some u) := fun j u hj => (HO.out.alloc _).cells rfl j u hj
    have HW : Hid ((w.alloc (Obj.cells #[] 110)).ownsRow w.heap.size 110 2 (.slice (some ⟨w.heap.size, 0, none⟩) 0 0) 0 []) := World.ownsRow_lit w #[] 0 (Nat.le_refl _) (by unfold maxLen; omega) rfl
    have hone : ∀ u ∈ mks L, u.oneCell' = true := by
      intro u hu
      simp only [mks, List.mem_flatMap] at hu
      obtain ⟨p, _, hp⟩ := hu
      simp at hp
      rcases hp with rfl | rfl <;> rfl
    have HON := Lib.hid hone
    clear hone
    go_wp2_with (at_builtin; refine wpList_append_own _ rfl (.tmp 5) (.tmp 6) 65 rfl w.heap.size 110 i0 (.agg #[.int .u8 0, .int .i64 0]) 2 16 Try.underlying65 Hi.out Hz0.out Hz1.out Hz2.out rfl (by decide) _ 0 [] rfl HW.out ⟨g, 0, none⟩ L.length cap (mks L) rfl (mks_len L) HC.out HON.out (by unfold maxLen; omega) (by omega) (by simp) ?_; intro v' w1 hown' hgrow _)
    go_ret
    simp only [Nat.zero_add, List.nil_append] at hown'
    exact ⟨v', rfl, hown', sm_alloc_grown hgrow (fun k e => by cases e; exact Nat.le_refl _)⟩
theorem marks_c (nb : Nat) (L : List (Int × Int)) (w : World) (h : Noted nb w L) (hL : L.length < 1000000) :
    Calls Try.prog 37 #[.pointer (some ⟨nb, 0, none⟩)] w fun e w' => ∃ v', e = .returned v' ∧ w'.ownsRow w.heap.size 110 2 v' L.length (mks L) ∧ Sm (fun _ => False) w w' := by
  obtain ⟨v, h1, h2⟩ := h
  have c0 : w.cell? ⟨nb, 0, none⟩ = some (.bool true) := h1.cell 0
  have c1 : w.cell? ⟨nb, 1, none⟩ = some v := h1.cell 1
  have H := Lib.hid (clone_c v L (nb + 1) w h2 hL)
  clear h2
  go_enter Try.func37, Try.ntmps37
  go_wp2_with fail
  refine H.out.mono ?_
  rintro e w' ⟨v', rfl, h3, h4⟩
  have H3 := Lib.hid h3
  have H4 := Lib.hid h4
  clear h3 h4
  go_wp2
  go_ret
  exact ⟨_, rfl, H3.out, H4.out⟩
end Go.Proofs.Ytmcffabfghhpaaa
/- patchbaylaw08.awake, walked alone: true. -/
namespace Go.Proofs.Ytmcffabfghhpaaa
open Go.RowKit
set_option linter.unusedVariables false

theorem bits_two : bits .and .i64 ((2 : Nat) : Int) (((2 : Nat) : Int) - 1) = 0 := by decide

def awakeMarks : List (Int × Int) := [(1, 1), (1, 2), (5, 1), (2, 3), (1, 0), (2, 2), (5, 0)]

set_option maxRecDepth 100000 in
set_option maxHeartbeats 800000 in
theorem awake_c (w : World) :
    Calls Try.prog 10 #[] w fun e w' => e = .returned (.bool true) ∧ Sm (fun _ => False) w w' := by
  go_enter Try.func10, Try.ntmps10
  go_wp2_with fail
  refine (new_ok 2 (by decide) (by decide) bits_two w).mono ?_
  rintro e w1 ⟨rfl, hb1, hs1⟩
  have hz1 : w.heap.size + 2 ≤ w1.heap.size := by have := hs1.rS.lt; omega
  obtain ⟨S, hS⟩ : ∃ S, S = w.heap.size + 1 := ⟨_, rfl⟩
  obtain ⟨N, hN⟩ : ∃ N, N = w.heap.size := ⟨_, rfl⟩
  rw [← hS, ← hN] at hs1
  rw [← hS]
  have hm : Sm (fun _ => False) w w1 := ⟨hb1.os, hb1.tape, hb1.output, hb1.size, fun k hk _ => hb1.block k hk⟩
  have HS := Lib.hid hS
  have HN := Lib.hid hN
  clear hS hN
  go_wp2_with fail
  refine (newNotes_c w1).mono ?_
  rintro e w2 ⟨rfl, hb2, hn2, hz2⟩
  have hg2 : w1.heap.size < w2.heap.size ∧ Noted w1.heap.size w2 [] := ⟨by omega, hn2⟩
  have hs2 : Stk S N 2 0 1 (memK 2 1) w2 := { hs1 with rS := hs1.rS.sm hb2 (fun h => h), rN := hs1.rN.sm hb2 (fun h => h) }
  have hSN : N < w1.heap.size ∧ S < w1.heap.size := by rw [HS.out, HN.out]; omega
  have hBN : w.heap.size ≤ N ∧ w.heap.size ≤ S := by rw [HS.out, HN.out]; omega
  obtain ⟨nb, hnb⟩ : ∃ nb, nb = w1.heap.size := ⟨_, rfl⟩
  rw [← hnb] at hg2 hSN
  rw [← hnb]
  have HNB := Lib.hid hnb
  clear hnb hn2 hz2
  have G1 := gate_note w.heap.size S N nb hSN.2 hSN.1 (by rw [HNB.out]; omega)
  have G0 := gate_nilX w.heap.size S N (fun w => nb < w.heap.size ∧ Noted nb w awakeMarks) (fun w w' h k => ⟨Nat.lt_of_lt_of_le h.1 k.size, h.2.sm k (fun b hb => by omega)⟩)
  have P1 := Lib.hid (push_ok G1 hBN.2 hBN.1 2 0 1 0 2 0 (memK 2 1) 5 (by decide) w2 [] (by decide) hg2 hs2 (by decide) (by decide) (fun h => by revert h; decide) (by decide))
  have GG1 := Lib.hid G1
  have GG0 := Lib.hid G0
  clear G1 G0 hg2 hs2 hs1
  go_wp2_with fail
  refine P1.out.mono ?_
  rintro e w3 ⟨rfl, hg3, hb3, hs3⟩
  have HG3 := Lib.hid hg3
  have P2 := Lib.hid (push_ok GG0.out hBN.2 hBN.1 2 (fol 0 (0 + 1)) (fol 1 2) 1 0 1 (((memK 2 1).set (2 * 0 + 1) 5).set (2 * 0) 0) 6 (by decide) w3 [] (by decide) hg3 hs3 (by decide) (by decide) (fun h => by revert h; decide) (by decide))
  clear hg3 hs3
  go_wp2_with fail
  refine P2.out.mono ?_
  rintro e w4 ⟨rfl, hg4, hb4, hs4⟩
  have P3 := Lib.hid (push_full GG0.out 2 _ _ _ 7 w4 [] (by decide) hg4 hs4 (by decide))
  clear hs4 hg4
  go_wp2_with fail
  refine P3.out.mono ?_
  rintro e w5 ⟨rfl, hg5, hb5, hs5⟩
  have P4 := Lib.hid (pop_ok GG0.out hBN.2 hBN.1 2 _ _ 1 1 0 6 _ w5 [] (by decide) hg5 hs5 (by decide) (by decide) (fun h => by revert h; decide) (fun h => by revert h; decide) (by decide))
  clear hs5 hg5
  go_wp2_with fail
  refine P4.out.mono ?_
  rintro e w6 ⟨rfl, hg6, hb6, hs6⟩
  have HG6 := Lib.hid hg6
  clear hs6 hg6
  go_wp2_with fail
  refine (marks_c nb awakeMarks _ ((HG6.out.2).alloc _) (by decide)).mono ?_
  rintro e w7 ⟨v7, rfl, h7, hb7⟩
  have H7 := Lib.hid h7
  clear h7
  go_wp2_with fail
  have hrow : Row w7 w6.heap.size (mks awakeMarks).toArray 110 := (Row.new w6 (mks awakeMarks).toArray 110).sm hb7 (fun h => h)
  refine (sameMarks_c v7 _ awakeMarks awakeMarks w7 (own_zero H7.out) (own_row hrow 7 2 rfl (by unfold maxLen; omega)) (by decide)).mono ?_
  rintro e w8 ⟨rfl, hb8⟩
  go_wp2
  go_ret
  refine ⟨by simp, ?_⟩
  have hb : Below w.heap.size w w6 := ((((hb1.trans (hb2.below (by omega) (fun k h => h.elim))).trans hb3).trans hb4).trans hb5).trans hb6
  have hsm : Sm (fun _ => False) w w6 := ⟨hb.os, hb.tape, hb.output, hb.size, fun k hk _ => hb.block k hk⟩
  exact ((hsm.alloc _).trans hb7).trans hb8
end Go.Proofs.Ytmcffabfghhpaaa
/- Plain words: a stack stays where memory grows. No condition. -/
namespace Go.Proofs.Ytmcffabfghhpaaa
open Go.Conc Go.RowKit
instance gm_srep {S N n : Nat} {a : SSt} : GM (SRep S N n a) := gm_rep (J := stkJob S N n)
section
theorem stk_rep {S N n t0 t1 : Nat} {m : List Nat} {u : World} (h : Stk S N n t0 t1 m u) (h0 : t0 % 4294967296 ≤ n) (h1 : t1 % 4294967296 ≤ n) (hm : m.all (fun v => decide (v ≤ n)) = true) : SRep S N n ⟨t0, t1, m⟩ u := by
  have hle := h.le
  have key : ∀ i (hi : i < m.length), m[i] ≤ n := fun i hi => by
    rw [List.all_eq_true] at hm
    simpa using hm _ (List.getElem_mem hi)
  exact ⟨h, h0, h1, fun i hi => key _ hi, fun i hi => by have := key _ hi; show m[2 * i + 1] < _; omega⟩
end
end Go.Proofs.Ytmcffabfghhpaaa
/- Plain words: an order brought to few threads, by goroutine 0 beside a play. No condition. -/
namespace Go.Proofs.Ytmcffabfghhpaaa
open Go.Conc Go.RowKit
section
variable {W : Machine → Trace → Prop} {x : LX} {M : World → Prop} {w : World}
/-- A frame's slots. -/
def slotsOf (t : Array Value) (j : Nat) : Value := t.getD j undef
def oFrame (a : Option Addr) (n c t : Nat) (v : Value) (f : Nat → Value) : Array Value := #[.slice a n c, .int .i64 t, f 2, f 3, .slice none 0 0, v, f 6, f 7, f 8, f 9, f 10, f 11, f 12, f 13, f 14, f 15, f 16, f 17, f 18, f 19, f 20, f 21, f 22, f 23, f 24, f 25, f 26, f 27]
set_option maxRecDepth 100000 in
set_option maxHeartbeats 3200000 in
theorem order_g [hM : GM M] (h : Kn x M w) (a : Option Addr) (b off n c t : Nat) (xs : Nat → Int) (ha : 0 < n → a = some ⟨b, off, none⟩) (hn : n ≤ 9223372036854775807) (ht : t ≤ 100) (hi : ∀ u, M u → IntsArg b off n xs u) {Q : LX → Value → World → Prop}
    (hq : ∀ v w', Kn x (fun u => u.ownsRow w.heap.size 3 1 v (ordL n xs t).length ((ordL n xs t).map (Value.int .i64)) ∧ M u) w' → w.heap.size ≤ w'.heap.size → Q x v w') :
    cpsC (envL W) 27 #[.slice a n c, .int .i64 t] Q x w := by
  have O := envL_ok (W := W)
  refine cpsC_body O Try.func27 rfl ?_
  simp only [Try.ntmps27]
  refine cps_opaque fun Q' hQ => ?_
  have Hq := Lib.hid hq
  have HA := Lib.hid ha
  have HI := Lib.hid hi
  clear hq ha hi
  walk_nrm
  repeat refine cps_seq O ?_
  (refine cps_region O ?_; simp only [List.size_toArray, List.length_cons, List.length_nil, Nat.reduceAdd, Nat.zero_add, List.range, List.range.loop])
  refine valE O rfl (.slice none 0 0) rfl rfl (fun _ => by simp [go_sem]) (fun _ => by go_simp; try (first | rfl | (simp [*]))) ?_; try walk_nrm
  refine cpsR_nil O ?_
  show cps _ _ _ _ _ _
  repeat refine cps_seq O ?_
  (refine cps_region O ?_; simp only [List.size_toArray, List.length_cons, List.length_nil, Nat.reduceAdd, Nat.zero_add, List.range, List.range.loop])
  refine valE O rfl (.slice none 0 0) rfl rfl (fun _ => by simp [go_sem]) (fun _ => by go_simp; try (first | rfl | (simp [*]))) ?_; try walk_nrm
  refine cpsR_nil O ?_
  show cps _ _ _ _ _ _
  repeat refine cps_seq O ?_
  (refine cps_region O ?_; simp only [List.size_toArray, List.length_cons, List.length_nil, Nat.reduceAdd, Nat.zero_add, List.range, List.range.loop])
  refine valE O rfl (.int .i64 0) rfl rfl (fun _ => by simp [go_sem]) (fun _ => by go_simp; try (first | rfl | (simp [*]))) ?_; try walk_nrm
  refine cpsR_nil O ?_
  show cps _ _ _ _ _ _
  repeat refine cps_seq O ?_
  refine aloneG (α := Value × (Nat → Value)) (fun y => oFrame a n c t y.1 y.2) (fun y u => u.ownsRow w.heap.size 3 1 y.1 (ordL n xs t).length ((ordL n xs t).map (Value.int .i64)) ∧ M u) h (by kernel_rfl) (fun u hu hs K hK => ?_) fun y w1 h1 hz1 => ?_
  · have hK' : ∀ (a' : Act) (u' : World), a'.defers = [] → (∃ v, a'.tmps = oFrame a n c t v (slotsOf a'.tmps) ∧ u'.ownsRow w.heap.size 3 1 v (ordL n xs t).length ((ordL n xs t).map (Value.int .i64)) ∧ M u') → K a' u' := fun a' u' h1 h => by
      obtain ⟨v, h2, h3⟩ := h
      exact hK (v, slotsOf a'.tmps) a' u' h1 h2 h3
    have hI := HI.out u hu
    obtain ⟨i0, hi, hz0, hz1, hz2⟩ := info_parts info_int
    have Hi := Lib.hid hi
    have Hz0 := Lib.hid hz0
    have Hz1 := Lib.hid hz1
    have Hz2 := Lib.hid hz2
    have HH := Lib.hid hI
    have HM := Lib.hid hu
    have HS := Lib.hid hs
    clear hi hz0 hz1 hz2 hI hu hs
    go_wp2
    go_loopw [5, 6] (fun s5 s6 wr => ∃ k : Nat, k ≤ n ∧ k ≤ 2000 ∧ s6 = .int .i64 k ∧ Hid (wr.ownsRow u.heap.size 3 1 s5 k (ordV xs t k)) ∧ Hid (Sm (fun _ => False) u wr)) (fun s5 s6 _ => n - (intOf s6).toNat)
    case atStart => exact ⟨0, by omega, by omega, rfl, Lib.hid (World.ownsRow_nil _ _ _ _), Lib.hid (Sm.refl _ _)⟩
    case round =>
      obtain ⟨wo, rfl⟩ : ∃ wo : World, wo = wr := ⟨_, rfl⟩
      obtain ⟨k, hk, hk2, rfl, hown, hS⟩ := hrel
      obtain ⟨a5, c5, hv5⟩ := own_form0 hown.out
      subst hv5
      have hfin : ∀ (hkn : k = min n 2000), wo.ownsRow w.heap.size 3 1 (.slice a5 k c5) (ordL n xs t).length ((ordL n xs t).map (Value.int .i64)) ∧ M wo := fun hkn => by
        refine ⟨?_, GM.sm hS.out HM.out⟩
        rw [ordL_len, ← ordV_all, ← hkn, ← HS.out]; exact hown.out
      have HF := Lib.hid hfin
      clear hfin
      by_cases hlt : k < n
      · have j1 : (k : Int) < (n : Int) := by omega
        by_cases h6 : k < 2000
        · have j6 : (k : Int) < 2000 := by omega
          have hp : wrap64 ((k : Int) + 1) = ((k + 1 : Nat) : Int) := by unfold wrap64; omega
          have HP := Lib.hid hp
          clear hp
          have hA1 := HA.out (by omega)
          subst hA1
          have hr := HH.out.sm hS.out
          have hc := hr.at_ k hlt
          have hq : IntKind.i64.wrap ((t : Int) + 1) = (t : Int) + 1 := by rw [IntKind.wrap_i64]; omega
          have hq2 : wrap64 ((t : Int) + 1) = (t : Int) + 1 := by unfold wrap64; omega
          have HW := Lib.hid (within_c (xs k) ((t : Int) + 1) (by omega) (by omega))
          clear hr
          go_wp2_with (first
            | (refine (HW.out _).mono ?_; rintro e w1 ⟨rfl, rfl⟩)
            | (at_builtin; refine wpList_append_own _ rfl (.tmp 17) (.tmp 25) 53 rfl u.heap.size 3 i0 (.int .i64 0) 1 8 Try.underlying53 Hi.out Hz0.out Hz1.out Hz2.out rfl (by decide) _ k (ordV xs t k) rfl (hown.out.alloc _) ⟨wo.heap.size, 0, none⟩ 1 1 [.int .i64 (wi (xs k) (t + 1))] rfl rfl (new_cells wo [.int .i64 (wi (xs k) (t + 1))] 3) (by simp [Value.oneCell']) (by unfold maxLen; omega) (by omega) (by have := hS.out.size; simp; omega) ?_; intro v' w4 hown4 hgr4 _))
          have n1 : Hid (w4.ownsRow u.heap.size 3 1 v' (k + 1) (ordV xs t (k + 1))) := Lib.hid (by rw [ordV_succ]; exact hown4)
          have n2 : Hid (Sm (fun _ => False) u w4) := Lib.hid (by
            have z := hS.out.size
            exact ⟨hgr4.os.trans hS.out.os, hgr4.tape.trans hS.out.tape, hgr4.output.trans hS.out.output, by have := hgr4.size; simp at this; omega, fun j hj hf => (hgr4.block j (by simp; omega) (fun e => by have := (hown.out.lt j e.symm).1; omega)).trans ((Below.heap_alloc _ _ _ (by omega)).trans (hS.out.block j hj hf))⟩)
          go_wp2
          go_roundw
          case rel => exact ⟨k + 1, by omega, by omega, by first | rw [HP.out] | go_num, n1, n2⟩
          case measure => (try rw [HP.out]); simp only [intOf]; omega
        · have j6 : ¬ (k : Int) < 2000 := by omega
          go_wp2
          exact hK' _ _ rfl ⟨_, by kernel_rfl, HF.out (by omega)⟩
      · have j1 : ¬ (k : Int) < (n : Int) := by omega
        go_wp2
        exact hK' _ _ rfl ⟨_, by kernel_rfl, HF.out (by omega)⟩
  obtain ⟨v, f⟩ := y
  dsimp only at h1 ⊢
  unfold oFrame
  show cps _ _ _ _ _ _
  repeat refine cps_seq O ?_
  (refine cps_region O ?_; simp only [List.size_toArray, List.length_cons, List.length_nil, Nat.reduceAdd, Nat.zero_add, List.range, List.range.loop])
  refine valE O rfl (v) rfl rfl (fun _ => by simp [go_sem]) (fun _ => by go_simp; try (first | rfl | (simp [*]))) ?_; try walk_nrm
  refine valE O rfl (v) rfl rfl (fun _ => by simp [go_sem]) (fun _ => by go_simp; try (first | rfl | (simp [*]))) ?_; try walk_nrm
  refine cpsR_nil O ?_
  exact cps_ret O (hQ _ _ _ _ ⟨.inr rfl, v, retE O rfl rfl rfl, Hq.out v w1 h1 hz1⟩)
end
end Go.Proofs.Ytmcffabfghhpaaa
/- Plain words: StackOnce's play, from what lies there ahead of it to what is known behind it. No condition. -/
namespace Go.Proofs.Ytmcffabfghhpaaa
open Go.Conc Go.RowKit
theorem gr_cell {u u' : World} (h : Gr u u') {a : Addr} (hl : a.block < u.heap.size) : u'.cell? a = u.cell? a := by
  unfold World.cell?
  rw [h.block _ hl]
theorem real_cell {u : World} {a : Addr} {v : Value} {o : Obj} (hc : u.cell? a = some v) (ho : u.heap[a.block]? = some o) : RealO o := by
  unfold World.cell? at hc
  rw [ho] at hc
  refine ⟨fun cap buf cl x r t e => ?_, fun T e => ?_⟩
  · subst e; simp at hc
  · subst e; simp at hc
theorem cell_lt {u : World} {a : Addr} {v : Value} (hc : u.cell? a = some v) : a.block < u.heap.size := by
  unfold World.cell? at hc
  cases h : u.heap[a.block]? with
  | none => rw [h] at hc; cases hc
  | some o => exact (Array.getElem?_eq_some_iff.1 h).1
theorem old_cell {D : Nat → Prop} {u : World} {a : Addr} {v : Value} (hD : D a.block) (hc : u.cell? a = some v) : (oldOf D u).cell a v := by
  refine Old.cell_of hc ?_
  have hl := cell_lt hc
  have e : u.heap[a.block]? = some u.heap[a.block] := Array.getElem?_eq_getElem hl
  rw [e]
  exact oldOf_at hD e (real_cell hc e)
theorem old_none {D : Nat → Prop} {u : World} {b : Nat} (h : ¬ D b) : (oldOf D u).ob b = none := by
  classical
  unfold oldOf
  simp only [if_neg h]
instance gm_bools {X : Nat → Prop} {g m most : Nat} {l : Nat → List Bool} {ea : Nat → Option Addr} {ec : Nat → Nat} : GM (BoolsOwn X g m most l ea ec) := ⟨fun u u' h q => ⟨fun r hr => by
  have := q.hd r hr
  rw [gr_cell h (cell_lt this)]; exact this, q.le, fun r hr j hj => by
  obtain ⟨b, o, h1, h2, h3, h4⟩ := q.dat r hr j hj
  exact ⟨b, o, h1, Nat.lt_of_lt_of_le h2 h.size, by rw [gr_cell h h2]; exact h3, h4⟩⟩⟩
theorem own_type {w : World} {base size n : Nat} {e : TypeId} {v : Value} {xs : List Value} (h : w.ownsRow base e size v n xs) (k : Nat) (hk : v.ownBlock = some k) : ∃ c, w.heap[k]? = some (.cells c e (0, 0)) := by
  obtain ⟨_, h2⟩ := h
  rcases h2 with ⟨rfl, rfl⟩ | ⟨g, cap, cur, rfl, _, hh, _⟩
  · cases hk
  · simp only [Value.ownBlock, Option.some.injEq] at hk
    subst hk
    exact ⟨cur, hh⟩
theorem own_ne_row {w : World} {b1 s1 n1 : Nat} {e1 T : TypeId} {v1 : Value} {x1 : List Value} {b : Nat} {c : Array Value} (h1 : w.ownsRow b1 e1 s1 v1 n1 x1) (hr : w.heap[b]? = some (.cells c T (0, 0))) (he : e1 ≠ T) : v1.ownBlock ≠ some b := by
  intro h
  obtain ⟨c1, g1⟩ := own_type h1 b h
  rw [g1] at hr
  simp only [Option.some.injEq, Obj.cells.injEq] at hr
  exact he hr.2.1
theorem srep_odd {S N n : Nat} {a : SSt} {u : World} (h : SRep S N n a u) (j : Nat) (hj : j < n) : a.m.getD (2 * j + 1) 0 < 18446744073709551616 := by
  have hl := h.stk.len
  have := h.bv j (by omega)
  rw [List.getD_eq_getElem?_getD, List.getElem?_eq_getElem (by omega)]
  exact this
/-- A thread as a value. -/
def onceV (sb lb xb : Nat) (kb : Nat → Nat) (j : Nat) : Value := .func (.func 41) #[] #[.pointer (some ⟨xb, 0, none⟩), .pointer (some ⟨kb j, 0, none⟩), .pointer (some ⟨sb, 0, none⟩), .pointer (some ⟨lb, 0, none⟩)]
def onceVs (sb lb xb : Nat) (kb : Nat → Nat) (i : Nat) : List Value := (List.range i).map (onceV sb lb xb kb)
theorem onceVs_succ (sb lb xb : Nat) (kb kb' : Nat → Nat) (i : Nat) (h : ∀ j, j < i → kb' j = kb j) : onceVs sb lb xb kb' (i + 1) = onceVs sb lb xb kb i ++ [onceV sb lb xb kb' i] := by
  simp only [onceVs, List.range_succ, List.map_append, List.map_cons, List.map_nil]
  congr 1
  refine List.map_congr_left fun j hj => ?_
  unfold onceV
  rw [h j (List.mem_range.1 hj)]
/-- The row of books, the first i of them laid. -/
def ptrs (bk : Nat → Nat) (i m : Nat) : Array Value := ((List.range m).map fun j => if j < i then Value.pointer (some ⟨bk j, 0, none⟩) else .pointer none).toArray
theorem ptrs_size {bk : Nat → Nat} {i m : Nat} : (ptrs bk i m).size = m := by simp [ptrs]
theorem ptrs_get {bk : Nat → Nat} {i m j : Nat} (hj : j < m) : (ptrs bk i m)[j]? = some (if j < i then Value.pointer (some ⟨bk j, 0, none⟩) else .pointer none) := by
  simp [ptrs, hj]
theorem ptrs_set {bk bk' : Nat → Nat} {i m : Nat} (hi : i < m) (h : ∀ j, j < i → bk' j = bk j) : (ptrs bk i m).setIfInBounds i (.pointer (some ⟨bk' i, 0, none⟩)) = ptrs bk' (i + 1) m := by
  refine Array.ext_getElem? fun j => ?_
  by_cases hj : j < m
  · rw [Array.getElem?_setIfInBounds, ptrs_get hj, ptrs_get hj]
    by_cases e : i = j
    · subst e
      rw [if_pos rfl, if_pos (by rw [ptrs_size]; exact hi), if_pos (by omega)]
    · rw [if_neg e]
      by_cases e2 : j < i
      · rw [if_pos e2, if_pos (by omega), h j e2]
      · rw [if_neg e2, if_neg (by omega)]
  · rw [Array.getElem?_eq_none (by simp [ptrs_size]; omega), Array.getElem?_eq_none (by rw [ptrs_size]; omega)]
/-- What lies there ahead of the play. -/
structure OnceM (W0 : World) (B S N n sb lb xb G g m cap C0 : Nat) (X : Nat → Prop) (l : Nat → List Bool) (ea : Nat → Option Addr) (ec : Nat → Nat) (bk kb : Nat → Nat) (v : Value) (u : World) : Prop where
  stk : SRep S N n ⟨0, 1, memK n (n - 1)⟩ u
  rsb : Row u sb #[.pointer (some ⟨S, 0, none⟩)] 26
  rlb : Row u lb #[.slice (some ⟨g, 0, none⟩) m cap] 38
  rxb : Row u xb #[.slice (some ⟨G, 0, none⟩) m m] 40
  lists : BoolsOwn X g m 8 l ea ec u
  books : Row u G (ptrs bk m m) 42
  rbk : ∀ j, j < m → Row u (bk j) #[.slice none 0 0, .slice none 0 0, .bool false] tBook ∧ C0 ≤ bk j
  bki : ∀ i j, i < m → j < m → i ≠ j → bk i ≠ bk j
  rkb : ∀ j, j < m → Row u (kb j) #[.int .i64 j] 3 ∧ C0 ≤ kb j
  thr : ∃ bs, C0 ≤ bs ∧ u.ownsRow bs 48 1 v m (onceVs sb lb xb kb m)
  since : Since B (Gr W0) u
instance gm_onceM {W0 : World} {B S N n sb lb xb G g m cap C0 : Nat} {X : Nat → Prop} {l : Nat → List Bool} {ea : Nat → Option Addr} {ec : Nat → Nat} {bk kb : Nat → Nat} {v : Value} : GM (OnceM W0 B S N n sb lb xb G g m cap C0 X l ea ec bk kb v) := ⟨fun u u' h q =>
  ⟨gm_srep.keep u u' h q.stk, gm_row.keep u u' h q.rsb, gm_row.keep u u' h q.rlb, gm_row.keep u u' h q.rxb, gm_bools.keep u u' h q.lists, gm_row.keep u u' h q.books, fun j hj => ⟨gm_row.keep u u' h (q.rbk j hj).1, (q.rbk j hj).2⟩, q.bki, fun j hj => ⟨gm_row.keep u u' h (q.rkb j hj).1, (q.rkb j hj).2⟩,
   by obtain ⟨bs, h1, h2⟩ := q.thr; exact ⟨bs, h1, gm_own.keep u u' h h2⟩, gm_since.keep u u' h q.since⟩⟩
/-- The lists' blocks. -/
def lblk (m : Nat) (l : Nat → List Bool) (ea : Nat → Option Addr) (b : Nat) : Prop := ∃ k, k < m ∧ 0 < (l k).length ∧ ∃ a, ea k = some a ∧ b = a.block
/-- What stands beside the play. -/
def onceD (sb lb xb G g m : Nat) (l : Nat → List Bool) (ea : Nat → Option Addr) (kb : Nat → Nat) (b : Nat) : Prop := b = sb ∨ b = lb ∨ b = xb ∨ b = G ∨ b = g ∨ (∃ j, j < m ∧ b = kb j) ∨ lblk m l ea b
section
variable {W0 : World} {B S N n sb lb xb G g m cap C0 S1 : Nat} {X : Nat → Prop} {l : Nat → List Bool} {ea : Nat → Option Addr} {ec : Nat → Nat} {bk kb : Nat → Nat} {v : Value} {w : World}
theorem once_old {u : World} (h : OnceM W0 B S N n sb lb xb G g m cap C0 X l ea ec bk kb v u) : OnceOld (oldOf (onceD sb lb xb G g m l ea kb) u) S m bk l xb sb lb G m g cap kb ea ec where
  xb := old_cell (.inr (.inr (.inl rfl))) (h.rxb.cell 0)
  gk := fun k hk => old_cell (.inr (.inr (.inr (.inl rfl)))) ((h.books.cell k).trans (by rw [ptrs_get hk, if_pos hk]))
  kb := fun k hk => old_cell (.inr (.inr (.inr (.inr (.inr (.inl ⟨k, hk, rfl⟩)))))) ((h.rkb k hk).1.cell 0)
  sb := old_cell (.inl rfl) (h.rsb.cell 0)
  lb := old_cell (.inr (.inl rfl)) (h.rlb.cell 0)
  rk := fun k hk => old_cell (.inr (.inr (.inr (.inr (.inl rfl))))) (h.lists.hd k hk)
  le := fun k hk i hi => by
    obtain ⟨b, o, h1, h2, h3, _⟩ := h.lists.dat k hk i hi
    exact ⟨b, o, h1, old_cell (.inr (.inr (.inr (.inr (.inr (.inr ⟨k, hk, by omega, _, h1, rfl⟩)))))) h3⟩
/-- The threads. -/
def onceThr (B : Nat) (bk : Nat → Nat) (l : Nat → List Bool) (S N n m : Nat) (old : Old) (sb lb xb : Nat) (kb : Nat → Nat) : List (Thr (bK B bk l S N n m old).core) := (List.range m).map fun k => ⟨41, #[.pointer (some ⟨xb, 0, none⟩), .pointer (some ⟨kb k, 0, none⟩), .pointer (some ⟨sb, 0, none⟩), .pointer (some ⟨lb, 0, none⟩)], fun σ => (σ, bookF l k 0)⟩
/-- No book as yet. -/
def noBook : Nat → List Nat × List Nat := fun _ => ([], [])
def noRow : Nat → Value × Value × Nat := fun _ => (.slice none 0 0, .slice none 0 0, 0)
theorem foot_no {k x : Nat} (h : bookFoot (bk k) (noBook k, noRow k) x) : x = bk k := by
  rcases h with h | h | h
  · exact h
  · simp [noRow, Value.ownBlock] at h
  · simp [noRow, Value.ownBlock] at h
theorem nodup_le : ∀ (N : Nat) (L : List Nat), L.Nodup → (∀ x ∈ L, x < N) → L.length ≤ N
  | 0, L, _, h => by
    cases L with
    | nil => simp
    | cons x L => exact absurd (h x (by simp)) (by omega)
  | N + 1, L, hd, h => by
    have h1 := nodup_le N (L.erase N) (hd.erase N) fun x hx => by
      have h2 := h x (List.mem_of_mem_erase hx)
      have h3 : x ≠ N := (hd.mem_erase_iff.1 hx).1
      omega
    have h4 := List.length_erase (l := L) (a := N)
    split at h4 <;> omega
theorem once_lens {a : SSt} {b : Nat → List Nat × List Nat} {L0 L1 : List Nat} (hd : ODone n m a b L0 L1) (hm : m ≤ 4) : ∀ k, k < m → (b k).1.length ≤ 5000 ∧ (b k).2.length ≤ 5000 := fun k hk => by
  have hs := hd.settles hm
  have hlt : ∀ x, pushedS m b x → x < 5000 := fun x ⟨k, hk, hx⟩ => by
    obtain ⟨i, rfl, hi⟩ := hd.old k hk x hx
    unfold bnum
    omega
  refine ⟨nodup_le 5000 _ ((hd.inc k hk).imp fun h => Nat.ne_of_lt h) fun x hx => hlt x ⟨k, hk, hx⟩, nodup_le 5000 _ ?_ fun x hx => ?_⟩
  · refine List.pairwise_iff_getElem.2 fun i j hi hj hij => ?_
    have h1 := (hs.popped k j hj hk).2
    intro e
    refine h1 (.inr ?_)
    rw [← e]
    exact List.mem_take_iff_getElem.2 ⟨i, by omega, rfl⟩
  · obtain ⟨i, hi, rfl⟩ := List.mem_iff_getElem.1 hx
    exact hlt _ (hs.popped k i hi hk).1
set_option maxRecDepth 100000 in
set_option maxHeartbeats 4000000 in
open Classical in
/-- The play of StackOnce. -/
theorem once_playC {Wm : Machine → Trace → Prop} (hW : Back Try.prog Wm) {ol : List Int} {ao av : Option Addr} {co cv S4 : Nat} (h : OnceM W0 B S N n sb lb xb G g m cap C0 X l ea ec bk kb (.slice av m cv) w) (hor : w.ownsRow S4 3 1 (.slice ao ol.length co) ol.length (ol.map (Value.int .i64)))
    (hBN : B ≤ N) (hNS : N < S) (hSs : S < sb) (hs1 : sb < S1) (hg1 : S1 ≤ g) (hlb : S1 ≤ lb ∧ lb < C0) (hgC : g < C0) (hG : C0 ≤ G) (hX : C0 ≤ xb) (hXl : ∀ b, X b → b < B ∨ (S1 ≤ b ∧ b < C0))
    (h4 : ∀ j, j < m → bk j < S4 ∧ kb j < S4) (h4C : C0 ≤ S4 ∧ G < S4 ∧ xb < S4)
    (hm0 : 0 < m) (hm4 : m ≤ 4) (hn0 : 0 < n) (hn : n ≤ 1024) (hol2 : ol.length ≤ 2000) (hol3 : ∀ k ∈ ol, k < 9223372036854775808) {Qc : LX → Value → World → Prop}
    (hq : ∀ Wg k (ta : Option Addr) (tn tc : Nat) (a : SSt) (b : Nat → List Nat × List Nat) (γ : Nat → Value × Value × Nat) (L0 L1 : List Nat) w', B ≤ Wg → w.heap.size ≤ w'.heap.size → ODone n m a b L0 L1 →
      Kn ⟨some Wg, k⟩ (fun u => (bK B bk l S N n m (oldOf (onceD sb lb xb G g m l ea kb) w)).core.Rep ((a, b), γ) u ∧ Since B (Gr W0) u) w' → Qc ⟨some Wg, k⟩ (.tuple #[.agg #[.slice ta tn tc, .slice none 0 0], .int .i64 0]) w') :
    cpsC (envL Wm) 31 #[.slice ao ol.length co, .slice av m cv] Qc ⟨none, 1⟩ w := by
  have hold := once_old h
  obtain ⟨D, hD⟩ : ∃ D, D = onceD sb lb xb G g m l ea kb := ⟨_, rfl⟩
  obtain ⟨old, hOld⟩ : ∃ old, old = oldOf D w := ⟨_, rfl⟩
  rw [← hD] at hold hq
  rw [← hOld] at hold hq
  obtain ⟨bs, hbs, hfo⟩ := h.thr
  have hB1 : B ≤ w.heap.size := by have := h.stk.stk.rS.lt; omega
  have hlist : ∀ b, lblk m l ea b → b < B ∨ (S1 ≤ b ∧ b < C0) := fun b ⟨k, hk, h0, a, ha, e⟩ => by
    obtain ⟨b', o, h1, _, _, h4⟩ := h.lists.dat k hk 0 h0
    rw [ha] at h1
    obtain rfl := Option.some.inj h1
    rw [e]
    exact hXl _ h4
  have hDo : ∀ b, D b → b = sb ∨ b = lb ∨ b = xb ∨ b = G ∨ b = g ∨ (∃ j, j < m ∧ b = kb j) ∨ lblk m l ea b := fun b hb => by rw [hD] at hb; exact hb
  have hDS : ∀ b, D b → b ≠ S ∧ b ≠ N := fun b hb => by
    rcases hDo b hb with h' | h' | h' | h' | h' | ⟨j, hj, h'⟩ | h'
    · omega
    · omega
    · omega
    · omega
    · omega
    · have := (h.rkb j hj).2; omega
    · have := hlist b h'; omega
  have hDb : ∀ b, D b → ∀ j, j < m → b ≠ bk j := fun b hb j hj => by
    have hr := (h.rbk j hj).1
    have hc := (h.rbk j hj).2
    have tne : ∀ {c : Array Value} {T : TypeId}, w.heap[b]? = some (.cells c T (0, 0)) → T ≠ tBook → b ≠ bk j := fun {c T} h1 h2 e => by
      rw [e] at h1
      have := h1.symm.trans hr
      injection this with this
      injection this with _ h3
      exact h2 h3
    rcases hDo b hb with h' | h' | h' | h' | h' | ⟨i, hi, h'⟩ | h'
    · omega
    · omega
    · subst h'; exact tne h.rxb (by decide)
    · subst h'; exact tne h.books (by decide)
    · omega
    · subst h'; exact tne (h.rkb i hi).1 (by decide)
    · have := hlist b h'; omega
  have hD4 : ∀ b, D b → b < S4 := fun b hb => by
    rcases hDo b hb with h' | h' | h' | h' | h' | ⟨j, hj, h'⟩ | h'
    · omega
    · omega
    · omega
    · omega
    · omega
    · have := (h4 j hj).2; omega
    · have := hlist b h'; omega
  have hDt : ∀ b, D b → (Value.slice av m cv).ownBlock ≠ some b := fun b hb e => by
    have := (hfo.lt b e).1
    rcases hDo b hb with h' | h' | h' | h' | h' | ⟨j, hj, h'⟩ | h'
    · omega
    · omega
    · subst h'; exact own_ne_row hfo h.rxb (by decide) e
    · subst h'; exact own_ne_row hfo h.books (by decide) e
    · omega
    · subst h'; exact own_ne_row hfo (h.rkb j hj).1 (by decide) e
    · have := hlist b h'; omega
  obtain ⟨o₀, ho₀⟩ : ∃ o₀ : Own, o₀ = ⟨fun x => if (x < B ∧ ¬ lblk m l ea x) ∨ (Value.slice ao ol.length co).ownBlock = some x ∨ (Value.slice av m cv).ownBlock = some x then w.heap[x]? else none, w.os, w.output⟩ := ⟨_, rfl⟩
  have hin : ∀ x, ((x < B ∧ ¬ lblk m l ea x) ∨ (Value.slice ao ol.length co).ownBlock = some x ∨ (Value.slice av m cv).ownBlock = some x) → o₀ x = w.heap[x]? := fun x hx => by rw [ho₀]; exact if_pos hx
  have hout : ∀ x, ¬ ((x < B ∧ ¬ lblk m l ea x) ∨ (Value.slice ao ol.length co).ownBlock = some x ∨ (Value.slice av m cv).ownBlock = some x) → o₀ x = none := fun x hx => by rw [ho₀]; exact if_neg hx
  have hosn : w.os = o₀.os ∧ w.output = o₀.out := by rw [ho₀]; exact ⟨rfl, rfl⟩
  clear ho₀
  have hseen : ∀ x o', o₀ x = some o' → ((x < B ∧ ¬ lblk m l ea x) ∨ (Value.slice ao ol.length co).ownBlock = some x ∨ (Value.slice av m cv).ownBlock = some x) ∧ w.heap[x]? = some o' := fun x o' hx => by
    by_cases hc : (x < B ∧ ¬ lblk m l ea x) ∨ (Value.slice ao ol.length co).ownBlock = some x ∨ (Value.slice av m cv).ownBlock = some x
    · exact ⟨hc, by rw [← hin x hc]; exact hx⟩
    · rw [hout x hc] at hx; cases hx
  have ncell : ∀ {v : Value} {n bs e : Nat} {xs : List Value} {x : Nat} {o' : Obj}, w.ownsRow bs e 1 v n xs → v.ownBlock = some x → w.heap[x]? = some o' → ∀ cap buf cl y r t, o' ≠ .chan cap buf cl y r t := fun ho hx hw cap buf cl y r t e => by
    obtain ⟨c, hc⟩ := own_type ho _ hx
    rw [hc] at hw
    rw [e] at hw
    cases hw
  have hoS : ∀ b, (Value.slice ao ol.length co).ownBlock = some b → S4 ≤ b := fun b hb => (hor.lt b hb).1
  have hstart : (onceThr B bk l S N n m old sb lb xb kb).map (·.start) = (List.range m).map fun k => fun σ => (σ, bookF l k 0) := by
    unfold onceThr
    rw [List.map_map]
    rfl
  obtain ⟨hp1, hp2⟩ := once_play (B := B) (bk := bk) (l := l) (S := S) (N := N) (sz := n) (m := m) (old := old) (n := n) hstart hn0 hn h.lists.le hm4 ol _ rfl
  have hprep : PRep (bookP bk l S N n) m old (noBook, noRow) w := by
    refine ⟨by rw [hOld]; exact oldOf_in, fun k hk => ⟨(h.rbk k hk).1, World.ownsRow_nil _ _ _ _, World.ownsRow_nil _ _ _ _, fun _ => rfl, fun _ => rfl, Nat.le_refl _, fun x hx => by simp [noRow, Value.ownBlock] at hx⟩, fun k x hk hx => ?_, fun j k x hj hk hjk h1 h2 => ?_⟩
    · have hx := foot_no hx
      subst hx
      rw [hOld]
      exact old_none fun hd => hDb _ hd k hk rfl
    · have h1 := foot_no h1
      have h2 := foot_no h2
      exact h.bki j k hj hk hjk (h1.symm.trans h2)
  refine play_c (x := ⟨none, 1⟩) (Y := (bK B bk l S N n m old).core) (ths := onceThr B bk l S N n m old sb lb xb kb) (order := ol) (o₀ := o₀) (a := (((⟨0, 1, memK n (n - 1)⟩ : SSt), noBook), noRow)) hW rfl (by decide) (by decide) hosn (fun x o' hx => ?_) hB1 (fun v hv => ?_) (fun x hx => ?_) (by omega) hol3 (fun v hv => ?_) (fun x hx => ?_) (by simp [onceThr]; omega) (by simp [onceThr]; omega) (fun i d hd => ?_) ⟨h.stk, hprep, fun x hx hf => ?_⟩ (fun x hx => ?_) hp1 (fun γ' Wg B0 vt w' hWg hB0 hsz hpl => ?_)
  · obtain ⟨h1, h2⟩ := hseen x o' hx
    refine ⟨h2, ?_⟩
    rcases h1 with h1 | h1 | h1
    · exact .inl h1.1
    · exact .inr (ncell hor h1 h2)
    · exact .inr (ncell hfo h1 h2)
  · exact ownsRow_of (own_weak hor (Nat.zero_le _)) fun b hb => by
      have hl := (hor.lt b hb).2
      have e1 : w.heap[b]? = some w.heap[b] := Array.getElem?_eq_getElem hl
      rw [e1]
      exact hv b _ (by rw [hin b (.inr (.inl hb))]; exact e1)
  · rw [hin x (.inr (.inl hx))]
    have hl := (hor.lt x hx).2
    rw [Array.getElem?_eq_getElem hl]
    simp
  · have hv1 : v.ownsRow 0 tFn 1 (.slice av m cv) m (onceVs sb lb xb kb m) := ownsRow_of (own_weak hfo (Nat.zero_le _)) fun b hb => by
      have hl := (hfo.lt b hb).2
      have e1 : w.heap[b]? = some w.heap[b] := Array.getElem?_eq_getElem hl
      rw [e1]
      exact hv b _ (by rw [hin b (.inr (.inr hb))]; exact e1)
    have e1 : (onceThr B bk l S N n m old sb lb xb kb).length = m := by simp [onceThr]
    have e2 : (onceThr B bk l S N n m old sb lb xb kb).map Thr.val = onceVs sb lb xb kb m := by
      unfold onceThr onceVs
      rw [List.map_map]
      rfl
    rw [e1, e2]
    exact hv1
  · rw [hin x (.inr (.inr hx))]
    have hl := (hfo.lt x hx).2
    rw [Array.getElem?_eq_getElem hl]
    simp
  · have hi : i < m := by
      have := (List.getElem?_eq_some_iff.1 hd).1
      simpa [onceThr] using this
    have hd' : d = ⟨41, #[.pointer (some ⟨xb, 0, none⟩), .pointer (some ⟨kb i, 0, none⟩), .pointer (some ⟨sb, 0, none⟩), .pointer (some ⟨lb, 0, none⟩)], fun σ => (σ, bookF l i 0)⟩ := by
      have : (onceThr B bk l S N n m old sb lb xb kb)[i]? = some ⟨41, #[.pointer (some ⟨xb, 0, none⟩), .pointer (some ⟨kb i, 0, none⟩), .pointer (some ⟨sb, 0, none⟩), .pointer (some ⟨lb, 0, none⟩)], fun σ => (σ, bookF l i 0)⟩ := by simp [onceThr, hi]
      exact Option.some.inj (hd.symm.trans this)
    subst hd'
    exact once_thr hold hi hm4 (fun k hk => by have := h.lists.le k; omega) rfl
  · have hx : x = S ∨ x = N := hx
    rcases hf with hf | ⟨k, hk, hf⟩
    · refine hf ?_
      rw [hOld]
      exact old_none fun hd => by have := hDS x hd; omega
    · have hf := foot_no hf
      have := (h.rbk k hk).2
      omega
  · refine hout x fun hc => ?_
    have hx : (x = S ∨ x = N) ∨ (bookP bk l S N n).foots m old (noBook, noRow) x := hx
    rcases hx with hx | hx | ⟨k, hk, hx⟩
    · rcases hc with hc | hc | hc
      · omega
      · have := hoS x hc; have := h.stk.stk.rS.lt; omega
      · have := (hfo.lt x hc).1; omega
    · have hd : D x := by
        by_cases hd : D x
        · exact hd
        · exact absurd (by rw [hOld]; exact old_none hd) hx
      rcases hc with hc | hc | hc
      · rcases hDo x hd with h' | h' | h' | h' | h' | ⟨j, hj, h'⟩ | h'
        · omega
        · omega
        · omega
        · omega
        · omega
        · have := (h.rkb j hj).2; omega
        · exact hc.2 h'
      · have := hoS x hc; have := hD4 x hd; omega
      · exact hDt x hd hc
    · have hx := foot_no hx
      subst hx
      have h5 := (h.rbk k hk).2
      rcases hc with hc | hc | hc
      · omega
      · have := hoS _ hc; have := (h4 k hk).1; omega
      · exact own_ne_row hfo (h.rbk k hk).1 (by decide) hc
  · have hk := hpl.knX (N := 1 + m) h.since (by omega) (fun x hx => by
      by_cases hr : lblk m l ea x
      · refine .inr fun u hu => ?_
        have hst : PRep (bookP bk l S N n) m old _ u := hu.2.1
        obtain ⟨k, hk, h0, a, ha, e⟩ := hr
        obtain ⟨b', o, q1, q2, q3, _⟩ := h.lists.dat k hk 0 h0
        rw [ha] at q1
        obtain rfl := Option.some.inj q1
        have e : x = b' := e
        subst e
        have e1 : w.heap[x]? = some w.heap[x] := Array.getElem?_eq_getElem q2
        rw [e1]
        refine hst.stat x _ ?_
        rw [hOld]
        exact oldOf_at (by rw [hD]; exact .inr (.inr (.inr (.inr (.inr (.inr ⟨k, hk, h0, _, ha, rfl⟩)))))) e1 (real_cell q3 e1)
      · exact .inl (hin x (.inl ⟨hx, hr⟩))) hosn hsz
    have e1 : (onceThr B bk l S N n m old sb lb xb kb).length = m := by simp [onceThr]
    rw [e1]
    obtain ⟨ta, tc, hvt⟩ := own_form0 hpl.trace
    subst hvt
    obtain ⟨u, hu, _⟩ := hk.tell
    have hsr : SRep S N n _ u := hu.1.1
    obtain ⟨L0, L1, hdone⟩ := hp2 fun j hj => srep_odd hsr j hj
    exact hq Wg (1 + m) ta _ tc _ _ γ' L0 L1 w' (by omega) hsz hdone (hk.mono fun u hu => ⟨hu.1, hu.2.2⟩)
end
end Go.Proofs.Ytmcffabfghhpaaa
/- Plain words: a list of numbers that is handed in, opened; a play's law, lifted. No condition. -/
namespace Go.Proofs.Ytmcffabfghhpaaa
open Go.Conc Go.ChangeShapes Go.WideShapes Go.ChangeAt Go.RowKit Go.Deep
section
variable {H : Type} {enc : TypeId × Value → H}
set_option maxRecDepth 100000 in
theorem open_i64s_arg {W : World} {b0 : Nat} {v : Value} {d : DataW H} {p : List MemPlace}
    (hok : Value.okWide Try.prog W .any b0 53 v) (h : DataW.Trod enc Try.prog W 0 (fun _ => true) true 53 v d p) :
    ∃ a b off len cap, ∃ xs : Nat → Int, v = .slice a len cap ∧ (0 < len → a = some ⟨b, off, none⟩) ∧ len ≤ 9223372036854775807 ∧ IntsArg b off len xs W := by
  obtain ⟨a0, len, cap, rfl⟩ := okWide_slice Try.underlying53 hok
  obtain ⟨fuel, hf⟩ := h
  rcases open_ints Try.underlying53 Try.underlying3 (by kernel_rfl) hf with ⟨hcs, hx⟩ | ⟨a, len', cap', zs, hcs, _, hl, hm, hz, hx, hcell, hwz⟩
  · simp [Value.cells] at hcs
    obtain ⟨rfl, rfl, rfl⟩ := hcs
    exact ⟨none, 0, 0, 0, 0, fun _ => 0, rfl, fun h => absurd h (by decide), by omega, ⟨fun j h => absurd h (by omega), fun h => absurd h (by decide)⟩⟩
  · simp [Value.cells] at hcs
    obtain ⟨rfl, rfl, rfl⟩ := hcs
    simp only [if_true] at hz
    unfold maxLen at hm
    by_cases h0 : len = 0
    · subst h0
      exact ⟨some a, 0, 0, 0, cap, fun _ => 0, rfl, fun h => absurd h (by decide), by omega, ⟨fun j h => absurd h (by omega), fun h => absurd h (by decide)⟩⟩
    · obtain ⟨b, off, rfl, h1, h2⟩ := plain_at ⟨_, hcell 0 (by omega)⟩ (hcell 0 (by omega))
      have add_p : ∀ (b off k : Nat), (⟨b, off, none⟩ : Addr).add k = ⟨b, off + k, none⟩ := fun b off k => by
        unfold Addr.add
        split <;> simp_all
      refine ⟨some ⟨b, off, none⟩, b, off, len, cap, fun j => zs.getD j 0, rfl, fun _ => rfl, by omega, ⟨fun j hj => ?_, fun _ => h1⟩⟩
      rw [← add_p]
      exact hcell j (by omega)
end
/-- A law's run, its memory as it was. -/
theorem gr_of_kn {Wg k : Nat} {W w' : World} (hWg : W.heap.size ≤ Wg) (h : Kn ⟨some Wg, k⟩ (Gr W) w') : Gr W w' := by
  obtain ⟨u, hu, hg⟩ := h.get
  refine ⟨by rw [← hu.size]; exact hg.size, fun x hx => ?_, hu.os.symm.trans hg.os, hu.output.symm.trans hg.out⟩
  rw [← hu.heap x fun hF => ?_]
  · exact hg.block x hx
  · have hF : some Wg = some x := hF
    have := Option.some.inj hF
    omega
end Go.Proofs.Ytmcffabfghhpaaa
