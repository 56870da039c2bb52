/- Marks and SameMarks, walked alone. -/
import Derived.Test.YtdedmmjmiakidaaFwAJ
import Derived.Shelf.Strconv.Itoa0
import Derived.Test.YtdedmmjmiakidaaProg
import Derived.Test.YtdedmmjmiakidaaFwAB
import Derived.Handy
import Derived.Laws.CopyOwn
import Derived.Laws.Rows
import Derived.Deep.WholeRow
import Derived.OwnWalk
import Derived.Test.YtdedmmjmiakidaaFwAG
set_option linter.unusedVariables false
set_option linter.unusedSimpArgs false
/- Marks and SameMarks, walked alone. -/
namespace Go.Proofs.Ytdedmmjmiakidaa
open Go.RowKit
set_option linter.unusedVariables false

theorem mks_get0 (L : List (Int × Int)) (k : Nat) (h : k < L.length) : (mks L)[2 * k]? = some (.int .u8 L[k].1) := by
  induction L generalizing k with
  | nil => simp at h
  | cons a l ih =>
    cases k with
    | zero => rfl
    | succ k =>
      have := ih k (by simpa using h)
      rw [show 2 * (k + 1) = 2 * k + 1 + 1 from by omega]
      simpa [mks] using this
theorem mks_get1 (L : List (Int × Int)) (k : Nat) (h : k < L.length) : (mks L)[2 * k + 1]? = some (.int .i64 L[k].2) := by
  induction L generalizing k with
  | nil => simp at h
  | cons a l ih =>
    cases k with
    | zero => rfl
    | succ k =>
      have := ih k (by simpa using h)
      rw [show 2 * (k + 1) + 1 = 2 * k + 1 + 1 + 1 from by omega]
      simpa [mks] using this

set_option maxHeartbeats 800000 in
theorem sameMarks_c (va vb : Value) (La Lb : List (Int × Int)) (w : World) (ha : w.ownsRow 0 118 2 va La.length (mks La)) (hb : w.ownsRow 0 118 2 vb Lb.length (mks Lb)) (hla : La.length < 1000000) :
    Calls Try.prog 44 #[va, vb] w fun e w' => e = .returned (.bool (decide (La = Lb))) ∧ Sm (fun _ => False) w w' := by
  obtain ⟨aa, ca, rfl⟩ := own_form0 ha
  obtain ⟨ab, cb, rfl⟩ := own_form0 hb
  by_cases hne : La.length = Lb.length
  · have hlt : (((La.length : Nat) : Int) != ((Lb.length : Nat) : Int)) = false := by simp [hne]
    have HNE := Lib.hid hne
    clear hne
    go_enter Try.func44, Try.ntmps44
    go_wp2
    clear hlt
    go_loopw [5] (fun s5 wr => ∃ k : Nat, k ≤ La.length ∧ s5 = .int .i64 k ∧ Hid (La.take k = Lb.take k) ∧ Sm (fun _ => False) w wr) (fun s5 _ => La.length - (intOf s5).toNat)
    case atStart => exact ⟨0, by omega, rfl, Lib.hid (by simp), Sm.refl _ _⟩
    case round =>
      obtain ⟨k, hk, rfl, hT, hS⟩ := hrel
      by_cases hlt : k < La.length
      · have hltb : k < Lb.length := by rw [← HNE.out]; exact hlt
        obtain ⟨ga, ca', hfa⟩ := own_form ha (by omega)
        obtain ⟨gb, cb', hfb⟩ := own_form hb (by omega)
        simp only [Value.slice.injEq] at hfa hfb
        obtain ⟨rfl, -, -⟩ := hfa
        obtain ⟨rfl, -, -⟩ := hfb
        have ha' := own_sm ha hS (fun _ _ h => h)
        have hb' := own_sm hb hS (fun _ _ h => h)
        have A0 : wr.cell? ⟨ga, k * 2, none⟩ = some (.int .u8 La[k].1) := by
          rw [ha'.cellAt (k * 2) (by omega), Nat.mul_comm]; exact mks_get0 La k hlt
        have A1 : wr.cell? ⟨ga, k * 2 + 1, none⟩ = some (.int .i64 La[k].2) := by
          rw [ha'.cellAt (k * 2 + 1) (by omega), Nat.mul_comm]; exact mks_get1 La k hlt
        have B0 : wr.cell? ⟨gb, k * 2, none⟩ = some (.int .u8 Lb[k].1) := by
          rw [hb'.cellAt (k * 2) (by omega), Nat.mul_comm]; exact mks_get0 Lb k hltb
        have B1 : wr.cell? ⟨gb, k * 2 + 1, none⟩ = some (.int .i64 Lb[k].2) := by
          rw [hb'.cellAt (k * 2 + 1) (by omega), Nat.mul_comm]; exact mks_get1 Lb k hltb
        obtain ⟨x0, hx0⟩ : ∃ x, x = La[k].1 := ⟨_, rfl⟩
        obtain ⟨x1, hx1⟩ : ∃ x, x = La[k].2 := ⟨_, rfl⟩
        obtain ⟨y0, hy0⟩ : ∃ x, x = Lb[k].1 := ⟨_, rfl⟩
        obtain ⟨y1, hy1⟩ : ∃ x, x = Lb[k].2 := ⟨_, rfl⟩
        rw [← hx0] at A0
        rw [← hx1] at A1
        rw [← hy0] at B0
        rw [← hy1] at B1
        have X0 := Lib.hid hx0
        have X1 := Lib.hid hx1
        have Y0 := Lib.hid hy0
        have Y1 := Lib.hid hy1
        have HA := Lib.hid ha
        have HB := Lib.hid hb
        clear hx0 hx1 hy0 hy1 ha hb ha' hb'
        have i0 : (0 : Int) ≤ (k : Int) := by omega
        have i1 : (k : Int) < (La.length : Int) := by omega
        have i2 : (k : Int) < (Lb.length : Int) := by omega
        have hsucc : x0 = y0 → x1 = y1 → Hid (La.take (k + 1) = Lb.take (k + 1)) := by
          intro e0 e1
          have h := hT.out
          apply Lib.hid
          rw [List.take_succ_eq_append_getElem hlt, List.take_succ_eq_append_getElem hltb, h]
          have : La[k] = Lb[k] := Prod.ext (by rw [← X0.out, ← Y0.out, e0]) (by rw [← X1.out, ← Y1.out, e1])
          rw [this]
        have hdiff : ¬ (x0 = y0 ∧ x1 = y1) → decide (La = Lb) = false := by
          intro hn
          rw [decide_eq_false_iff_not]
          intro e
          subst e
          exact hn ⟨by rw [X0.out, Y0.out], by rw [X1.out, Y1.out]⟩
        have HSU := Lib.hid hsucc
        have HDI := Lib.hid hdiff
        clear hsucc hdiff
        by_cases e0 : x0 = y0
        · by_cases e1 : x1 = y1
          · have E0 := Lib.hid e0
            have E1 := Lib.hid e1
            rw [← e0] at B0
            rw [← e1] at B1
            clear e0 e1
            go_wp2
            go_quiet (fail)
            go_wp2
            go_roundw
            case rel => exact ⟨k + 1, by omega, by go_num, HSU.out E0.out E1.out, hS.drewN _⟩
            case measure => simp [intOf]; omega
          · have E1 : (x1 == y1) = false := by simp [e1]
            have E0 := Lib.hid e0
            have EN := Lib.hid e1
            rw [← e0] at B0
            clear e0 e1
            go_wp2
            go_quiet (fail)
            go_wp2
            go_ret
            exact ⟨ret_bool (HDI.out (fun h => EN.out h.2)).symm, hS.drewN _⟩
        · have E0 : (x0 == y0) = false := by simp [e0]
          have EN := Lib.hid e0
          clear e0
          go_wp2
          go_quiet (fail)
          go_wp2
          go_ret
          exact ⟨ret_bool (HDI.out (fun h => EN.out h.1)).symm, hS.drewN _⟩
      · have hk' : k = La.length := by omega
        have HK := Lib.hid hk'
        have i1 : ¬ ((k : Int) < (La.length : Int)) := by omega
        clear hk'
        go_wp2
        go_ret
        refine ⟨?_, hS⟩
        have : La = Lb := by
          have h := hT.out
          rw [HK.out, List.take_length, HNE.out, List.take_length] at h
          exact h
        exact ret_bool (decide_eq_true this).symm
  · have hlt : (((La.length : Nat) : Int) != ((Lb.length : Nat) : Int)) = true := by simp; omega
    have hd : decide (La = Lb) = false := by
      rw [decide_eq_false_iff_not]
      exact fun e => hne (by rw [e])
    rw [hd]
    clear hne
    go_enter Try.func44, Try.ntmps44
    go_wp2
    go_ret
    exact ⟨rfl, Sm.refl _ _⟩
set_option maxRecDepth 100000 in
set_option maxHeartbeats 800000 in
theorem clone_c (v : Value) (L : List (Int × Int)) (b0 : Nat) (w : World) (hv : w.ownsRow b0 118 2 v L.length (mks L)) (hL : L.length < 1000000) :
    Calls Try.prog 51 #[v] w fun e w' => ∃ v', e = .returned v' ∧ w'.ownsRow w.heap.size 118 2 v' L.length (mks L) ∧ Sm (fun _ => False) w w' := by
  obtain ⟨i0, hi, hz0, hz1, hz2⟩ := info_parts info_mark
  obtain ⟨hl, hv | ⟨g, cap, cur, rfl, hg, hh, hn, hc, hsz, ht⟩⟩ := hv
  · obtain ⟨rfl, h0⟩ := hv
    have hq := fun wx => Lib.run_eql_slice_nil (P := Try.prog) wx 63 118 none 0 0 0 0 Try.underlying63
    go_enter Try.func51, Try.ntmps51
    go_wp2
    go_ret
    have e : L = [] := List.eq_nil_of_length_eq_zero h0
    subst e
    exact ⟨_, rfl, World.ownsRow_nil _ _ _ _, Sm.refl _ _⟩
  · have hq := fun wx => Lib.run_eql_slice_nil (P := Try.prog) wx 63 118 (some ⟨g, 0, none⟩) L.length cap 0 0 Try.underlying63
    have HO : Hid (w.ownsRow b0 118 2 (.slice (some ⟨g, 0, none⟩) L.length cap) L.length (mks L)) := ⟨hl, .inr ⟨g, cap, cur, rfl, hg, hh, hn, hc, hsz, ht⟩⟩
    have Hi := Lib.hid hi
    have Hz0 := Lib.hid hz0
    have Hz1 := Lib.hid hz1
    have Hz2 := Lib.hid hz2
    clear hl hg hh hn hc hsz ht hi hz0 hz1 hz2
    go_enter Try.func51, Try.ntmps51
    have HC : Hid (∀ (j : Nat) (u : Value), (mks L)[j]? = some u → (w.alloc (Obj.cells #[] 118)).cell? ((⟨g, 0, none⟩ : Addr).add j) = some u) := fun j u hj => (HO.out.alloc _).cells rfl j u hj
    have HW : Hid ((w.alloc (Obj.cells #[] 118)).ownsRow w.heap.size 118 2 (.slice (some ⟨w.heap.size, 0, none⟩) 0 0) 0 []) := World.ownsRow_lit w #[] 0 (Nat.le_refl _) (by unfold maxLen; omega) rfl
    have hone : ∀ u ∈ mks L, u.oneCell' = true := by
      intro u hu
      simp only [mks, List.mem_flatMap] at hu
      obtain ⟨p, _, hp⟩ := hu
      simp at hp
      rcases hp with rfl | rfl <;> rfl
    have HON := Lib.hid hone
    clear hone
    go_wp2_with (at_builtin; refine wpList_append_own _ rfl (.tmp 5) (.tmp 6) 63 rfl w.heap.size 118 i0 (.agg #[.int .u8 0, .int .i64 0]) 2 16 Try.underlying63 Hi.out Hz0.out Hz1.out Hz2.out rfl (by decide) _ 0 [] rfl HW.out ⟨g, 0, none⟩ L.length cap (mks L) rfl (mks_len L) HC.out HON.out (by unfold maxLen; omega) (by omega) (by simp) ?_; intro v' w1 hown' hgrow _)
    go_ret
    simp only [Nat.zero_add, List.nil_append] at hown'
    exact ⟨v', rfl, hown', sm_alloc_grown hgrow (fun k e => by cases e; exact Nat.le_refl _)⟩
theorem marks_c (nb : Nat) (L : List (Int × Int)) (w : World) (h : Noted nb w L) (hL : L.length < 1000000) :
    Calls Try.prog 24 #[.pointer (some ⟨nb, 0, none⟩)] w fun e w' => ∃ v', e = .returned v' ∧ w'.ownsRow w.heap.size 118 2 v' L.length (mks L) ∧ Sm (fun _ => False) w w' := by
  obtain ⟨v, h1, h2⟩ := h
  have c0 : w.cell? ⟨nb, 0, none⟩ = some (.bool true) := h1.cell 0
  have c1 : w.cell? ⟨nb, 1, none⟩ = some v := h1.cell 1
  have H := Lib.hid (clone_c v L (nb + 1) w h2 hL)
  clear h2
  go_enter Try.func24, Try.ntmps24
  go_wp2_with fail
  refine H.out.mono ?_
  rintro e w' ⟨v', rfl, h3, h4⟩
  have H3 := Lib.hid h3
  have H4 := Lib.hid h4
  clear h3 h4
  go_wp2
  go_ret
  exact ⟨_, rfl, H3.out, H4.out⟩
end Go.Proofs.Ytdedmmjmiakidaa
/-
  DERIVED: THE SHELF's CONTRACTS AT THIS DUMP, IN PLAIN WORDS (tools/lay-plain.mjs out of 'TryShelf.lean', which tools/lay-shelf.mjs wrote): THE SAME DECLARATIONS UNDER THE SAME NAMES: 'import', 'namespace', 'open', 'def', 'theorem' AND NOTHING ELSE: no command of the shelf's: FOR A HAND-IN. Each laying: the table of numbers ('.._ren') and one theorem, a field a fact of the dump's own or the kernel's comparison; each contract: ONE APPLICATION.
-/
namespace Go.Proofs
open Go.Shelf
def Try.lays129_ren : Go.Shelf.Ren := ⟨fun | 129 => 45 | n => n, fun | 53 => 23 | 3 => 3 | 4 => 4 | 46 => 169 | 5 => 5 | 9 => 9 | n => n, fun | n => n⟩
theorem Try.lays129 : Go.Proofs.Lays.n129 Try.prog Try.lays129_ren := {
  mixed := by kernel_rfl
  f129 := Try.func45.trans (congrArg some (by kernel_rfl))
  t3 := Try.underlying3
  a3 := Try.isAgg3
  z3 := Try.sizeOf3
  v3 := Try.zeroValue3
  t4 := Try.underlying4
  a4 := Try.isAgg4
  z4 := Try.sizeOf4
  v4 := Try.zeroValue4
  t5 := Try.underlying5
  a5 := Try.isAgg5
  z5 := Try.sizeOf5
  v5 := Try.zeroValue5
  t9 := Try.underlying9
  a9 := Try.isAgg9
  z9 := Try.sizeOf9
  v9 := Try.zeroValue9
  t46 := Try.underlying169
  a46 := Try.isAgg169
  z46 := Try.sizeOf169
  v46 := Try.zeroValue169
  t53 := Try.underlying23
  a53 := Try.isAgg23
  z53 := Try.sizeOf23
  v53 := Try.zeroValue23 }
/-- bits.Len64: "Len64 returns the minimum number of bits required to represent x; the result is 0 for x == 0.": IT RETURNS 'Lib.bitLen x'; the world is as it was. ('h0', 'h1': x is a uint64.) (LAID: no walk: one application.) -/
theorem Try.bits_Len64 (x : Int) (w : World) (h0 : 0 ≤ x) (h1 : x ≤ 18446744073709551615) :
    Calls Try.prog 45 #[.int .u64 x] w fun e w' => e = .returned (.int .i64 (Lib.bitLen x.toNat)) ∧ w' = w := Any.bits_Len64 Try.lays129 x w h0 h1
end Go.Proofs
/- Package tally, walked alone: the step of a gate; New; Add, Parts, Sum. -/
namespace Go.Proofs.Ytdedmmjmiakidaa
open Go.RowKit
set_option linter.unusedVariables false

def uw (m : List Nat) : Array Value := (m.map fun (x : Nat) => Value.int .u64 (x : Int)).toArray
theorem uw_get (m : List Nat) (i : Nat) (h : i < m.length) : (uw m)[i]? = some (.int .u64 (m[i] : Nat)) := by
  simp [uw, h]
theorem uw_set (m : List Nat) (i v : Nat) : (uw m).setIfInBounds i (.int .u64 (v : Int)) = uw (m.set i v) := by
  simp [uw, List.map_set]

theorem aadd (a : Addr) (x n s : Nat) (w : World) (h : w.cell? a = some (.int .u64 (x : Int))) (hz : w.frozen? a = false) (hs : (x + n) % 18446744073709551616 = s) :
    Calls Try.prog 47 #[.pointer (some a), .int .u64 (n : Int)] w fun e w' => e = .returned (.int .u64 (s : Int)) ∧ w.setCell a (.int .u64 (s : Int)) = w' := by
  have e : IntKind.u64.wrap ((x : Int) + (n : Int)) = (s : Int) := by rw [IntKind.wrap_u64]; omega
  have hl := run_call_add (P := Try.prog) Try.func70 (by kernel_rfl) (by kernel_rfl) (by kernel_rfl) .u64 (by kernel_rfl) (y := (n : Int)) (s := (s : Int)) h hz (by rw [← e]; rfl)
  clear e hs
  go_enter Try.func47, Try.ntmps47
  go_wp2
  go_ret
  exact ⟨rfl, rfl⟩

theorem tstep_nil (op wd : Int) (w : World) :
    Calls Try.prog 46 #[.nilIface, .int .u8 op, .int .i64 wd] w fun e w' => e = .returned (.tuple #[]) ∧ w = w' := by
  go_enter Try.func46, Try.ntmps46
  go_wp2
  go_end0
  exact ⟨rfl, rfl⟩

theorem tstep_note (nb : Nat) (op wd : Int) (w : World) (L : List (Int × Int)) (hL : L.length < 1000000) (h : Noted nb w L) :
    Calls Try.prog 46 #[.iface 61 (.pointer (some ⟨nb, 0, none⟩)), .int .u8 op, .int .i64 wd] w fun e w' =>
      e = .returned (.tuple #[]) ∧ Noted nb w' (L ++ [(op, wd)]) ∧ Sm (fun b => nb ≤ b) w w' := by
  have H := Lib.hid (noteStep_c nb op wd w L hL h)
  clear h
  go_enter Try.func46, Try.ntmps46
  go_wp2_with fail
  refine H.out.mono ?_
  rintro e w' ⟨rfl, h1, h2⟩
  have H2 := Lib.hid h2
  clear h2
  go_wp2
  refine bodyPost_end (results_none rfl _ _ _) rfl ?_
  exact ⟨rfl, h1, H2.out⟩

/-- What is asked of a gate beside an object whose blocks are X. -/
structure GateOk (g : Value) (B : Nat) (X : Nat → Prop) (G : World → List (Int × Int) → Prop) : Prop where
  step : ∀ (w : World) (L : List (Int × Int)) (op wd : Int), L.length < 1000000 → G w L → Calls Try.prog 46 #[g, .int .u8 op, .int .i64 wd] w fun e w' =>
    e = .returned (.tuple #[]) ∧ G w' (L ++ [(op, wd)]) ∧ Below B w w' ∧ ∀ k, X k → w'.heap[k]? = w.heap[k]?
  keep : ∀ (w w' : World) (L : List (Int × Int)), G w L → Sm X w w' → G w' L

theorem gate_nilX (B : Nat) (X : Nat → Prop) (Y : World → Prop) (hY : ∀ w w', Y w → Sm X w w' → Y w') : GateOk .nilIface B X (fun w _ => Y w) where
  step := fun w L op wd _ hg => (tstep_nil op wd w).mono fun e w' ⟨h1, h2⟩ => by
    subst h2
    exact ⟨h1, hg, Below.refl _ _, fun _ _ => rfl⟩
  keep := fun w w' _ h k => hY w w' h k

theorem gate_note (B nb : Nat) (X : Nat → Prop) (hX : ∀ k, X k → k < nb) (hB : B ≤ nb) : GateOk (.iface 61 (.pointer (some ⟨nb, 0, none⟩))) B X (fun w L => nb < w.heap.size ∧ Noted nb w L) where
  step := fun w L op wd hL hg => (tstep_note nb op wd w L hL hg.2).mono fun e w' ⟨h1, h2, h3⟩ =>
    ⟨h1, ⟨Nat.lt_of_lt_of_le hg.1 h3.size, h2⟩, h3.below (by omega) (fun k hk => by omega), fun k hk => h3.block k (by have := hX k hk; omega) (by have := hX k hk; omega)⟩
  keep := fun w w' L hg k => ⟨Nat.lt_of_lt_of_le hg.1 k.size, hg.2.sm k (fun b hb hf => by have := hX b hf; omega)⟩
end Go.Proofs.Ytdedmmjmiakidaa
/- Package tally, walked alone: New, Add, Parts, Sum; NewHist, Hist.Add, Hist.Get. -/
namespace Go.Proofs.Ytdedmmjmiakidaa
open Go.RowKit
set_option linter.unusedVariables false

/-- A tally in memory: its shards. -/
structure Tal (T A : Nat) (m : List Nat) (w : World) : Prop where
  rT : Row w T #[.slice (some ⟨A, 0, none⟩) m.length m.length] 50
  rA : Row w A (uw m) 55
  ne : T ≠ A
  pos : 0 < m.length
  le : m.length ≤ 64

theorem Tal.sm {F : Nat → Prop} {T A : Nat} {m : List Nat} {w w' : World} (h : Tal T A m w) (k : Sm F w w') (hT : ¬ F T) (hA : ¬ F A) : Tal T A m w' :=
  { h with rT := h.rT.sm k hT, rA := h.rA.sm k hA }

theorem info_au64 : (Try.prog.info? 55).map (fun i => (i.zero, i.size, i.bytes)) = some (some (.agg #[.int .u64 0]), 1, 8) := by kernel_rfl
theorem info_u64 : (Try.prog.info? 23).map (fun i => (i.zero, i.size, i.bytes)) = some (some (.int .u64 0), 1, 8) := by kernel_rfl

theorem made_one (n : Nat) (z : Value) : madeCells #[z] (n * 1) = (List.replicate n z).toArray := by
  apply Array.ext
  · simp [size_madeCells]
  · intro j h1 h2
    simp [madeCells, Nat.mod_one]

theorem make_shards (n : Nat) (hn : n ≤ 64) (w : World) :
    (Instr.makeSlice 48 (.int .i64 n) (.int .i64 n)).run Try.prog w = .ok (.slice (some ⟨w.heap.size, 0, none⟩) n n) (w.alloc (.cells (uw (List.replicate n 0)) 55)) := by
  obtain ⟨i0, hi, hz0, hz1, hz2⟩ := info_parts info_au64
  have h := run_makeSlice (P := Try.prog) w 48 55 i0 _ Try.underlying48 hi hz0 .i64 .i64 n n (by omega) (by omega) (by rw [hz1]; omega) (by rw [hz2]; omega) (by omega)
  rw [hz1] at h
  simp only [Int.toNat_natCast] at h
  have e : madeCells (Value.agg #[Value.int .u64 0]).cells (n * 1) = uw (List.replicate n 0) := by
    have := made_one n (.int .u64 0)
    simp only [Value.cells]
    rw [this]
    simp [uw]
  rw [e] at h
  exact h

theorem make_u64s (n : Nat) (hn : n ≤ 1000000) (w : World) :
    (Instr.makeSlice 38 (.int .i64 n) (.int .i64 n)).run Try.prog w = .ok (.slice (some ⟨w.heap.size, 0, none⟩) n n) (w.alloc (.cells (uw (List.replicate n 0)) 23)) := by
  obtain ⟨i0, hi, hz0, hz1, hz2⟩ := info_parts info_u64
  have h := run_makeSlice (P := Try.prog) w 38 23 i0 _ Try.underlying38 hi hz0 .i64 .i64 n n (by omega) (by omega) (by rw [hz1]; omega) (by rw [hz2]; omega) (by omega)
  rw [hz1] at h
  simp only [Int.toNat_natCast] at h
  have e : madeCells (Value.int .u64 0).cells (n * 1) = uw (List.replicate n 0) := by
    have := made_one n (.int .u64 0)
    simp only [Value.cells]
    rw [this]
    simp [uw]
  rw [e] at h
  exact h

set_option maxRecDepth 100000 in
theorem tnew_ok (n : Nat) (h0 : 0 < n) (hn : n ≤ 64) (w : World) :
    Calls Try.prog 22 #[.int .i64 n] w fun e w' => e = .returned (.tuple #[.pointer (some ⟨w.heap.size + 1, 0, none⟩), .int .i64 0]) ∧ Sm (fun _ => False) w w' ∧ Tal (w.heap.size + 1) w.heap.size (List.replicate n 0) w' := by
  have hm := make_shards n hn w
  go_enter Try.func22, Try.ntmps22
  go_wp2
  go_ret2
  refine ⟨rfl, ((Sm.refl _ _).alloc _).alloc _, ?_, ?_, by simp, by simpa using h0, by simpa using hn⟩
  · have := Row.new (w.alloc (Obj.cells (uw (List.replicate n 0)) 55)) #[.slice (some ⟨w.heap.size, 0, none⟩) n n] 50
    simpa using this
  · exact (Row.new w _ _).alloc _

set_option maxRecDepth 100000 in
theorem tnew_err (n : Int) (h : n < 1 ∨ 64 < n) (w : World) :
    Calls Try.prog 22 #[.int .i64 n] w fun e w' => e = .returned (.tuple #[.pointer none, .int .i64 2]) ∧ w = w' := by
  rcases h with h | h
  · go_enter Try.func22, Try.ntmps22
    go_wp2
    go_ret2
    exact ⟨rfl, rfl⟩
  · have h' : ¬ n < 1 := by omega
    go_enter Try.func22, Try.ntmps22
    go_wp2
    go_ret2
    exact ⟨rfl, rfl⟩

set_option maxRecDepth 100000 in
theorem tnone_c (T A : Nat) (m : List Nat) (w : World) (h : Tal T A m w) :
    Calls Try.prog 50 #[.pointer (some ⟨T, 0, none⟩)] w fun e w' => e = .returned (.bool false) ∧ w = w' := by
  have h0 : w.cell? ⟨T, 0, none⟩ = some (.slice (some ⟨A, 0, none⟩) m.length m.length) := h.rT.cell 0
  have hp := h.pos
  have hz : (((m.length : Nat) : Int) == 0) = false := by rw [beq_eq_false_iff_ne]; omega
  go_enter Try.func50, Try.ntmps50
  go_wp2
  go_ret
  exact ⟨rfl, rfl⟩

set_option maxRecDepth 100000 in
set_option maxHeartbeats 400000 in
theorem tadd_c {g : Value} {B T A : Nat} {G : World → List (Int × Int) → Prop} (hG : GateOk g B (fun k => k = T ∨ k = A) G) (hBA : B ≤ A) (m : List Nat) (i n s : Nat) (hi : i < m.length) (hs : (m[i] + n) % 18446744073709551616 = s) (w : World) (L : List (Int × Int)) (hL : L.length + 20 ≤ 1000000) (hg : G w L) (h : Tal T A m w) :
    Calls Try.prog 19 #[.pointer (some ⟨T, 0, none⟩), g, .int .i64 i, .int .u64 n] w fun e w' =>
      e = .returned (.tuple #[.int .u64 s, .int .i64 0]) ∧ G w' (L ++ [(3, (i : Int))]) ∧ Below B w w' ∧ Tal T A (m.set i s) w' := by
  have hle := h.le
  have hne := h.ne
  have h0 : w.cell? ⟨T, 0, none⟩ = some (.slice (some ⟨A, 0, none⟩) m.length m.length) := h.rT.cell 0
  have H0 := Lib.hid (tnone_c T A m w h)
  have j1 : (i : Int) < (m.length : Int) := by omega
  have HS := Lib.hid hs
  clear hs
  go_enter Try.func19, Try.ntmps19
  go_wp2_with fail
  refine H0.out.mono ?_
  rintro e w' ⟨rfl, rfl⟩
  go_wp2_with fail
  refine (hG.step _ _ _ _ (by omega) hg).mono ?_
  rintro e w1 ⟨rfl, hg1, hb1, hk1⟩
  have hr1 := Row.of_heap h.rT (hk1 T (.inl rfl))
  have ha1 := Row.of_heap h.rA (hk1 A (.inr rfl))
  clear hk1 h0
  have h1 : w1.cell? ⟨T, 0, none⟩ = some (.slice (some ⟨A, 0, none⟩) m.length m.length) := hr1.cell 0
  go_wp2_with fail
  refine (aadd ⟨A, i, none⟩ m[i] n s _ ((ha1.cell i).trans (uw_get m i hi)) (ha1.free i) HS.out).mono ?_
  rintro e w2 ⟨rfl, hw2⟩
  have HW2 := Lib.hid hw2
  clear hw2 h1
  go_wp2
  go_ret2
  rw [← HW2.out]
  refine ⟨rfl, hG.keep _ _ _ hg1 ((Sm.refl _ _).setCell (.inr rfl) _), hb1.setCell hBA _, ?_, ?_, hne, by simpa using h.pos, by simpa using hle⟩
  · simp only [List.length_set]
    exact hr1.set_ne (fun e => hne e.symm) _
  · rw [← uw_set]
    exact ha1.set i _
end Go.Proofs.Ytdedmmjmiakidaa
/- Package tally, walked alone: Parts and Sum of a tally without a gate. -/
namespace Go.Proofs.Ytdedmmjmiakidaa
open Go.RowKit
set_option linter.unusedVariables false

/-- What the slice out holds after k rounds. -/
def upto (m : List Nat) (k : Nat) : List Nat := m.take k ++ List.replicate (m.length - k) 0
theorem upto_len (m : List Nat) (k : Nat) (h : k ≤ m.length) : (upto m k).length = m.length := by
  simp [upto]; omega
theorem upto_all (m : List Nat) : upto m m.length = m := by simp [upto]
theorem upto_zero (m : List Nat) : upto m 0 = List.replicate m.length 0 := by simp [upto]
theorem upto_set (m : List Nat) (k : Nat) (h : k < m.length) : (upto m k).set k m[k] = upto m (k + 1) := by
  apply List.ext_getElem
  · simp [upto]; omega
  · intro i h1 h2
    simp only [upto, List.getElem_set, List.getElem_append, List.length_take, List.getElem_take, List.getElem_replicate]
    by_cases e : k = i
    · subst e
      have : k < min (k + 1) m.length := by omega
      rw [if_pos rfl, dif_pos this]
    · rw [if_neg e]
      by_cases e2 : i < min k m.length
      · have : i < min (k + 1) m.length := by omega
        rw [dif_pos e2, dif_pos this]
      · have : ¬ i < min (k + 1) m.length := by omega
        rw [dif_neg e2, dif_neg this]

def wsum (m : List Nat) : Nat := m.foldl (fun s x => (s + x) % 18446744073709551616) 0
theorem wsum_succ (m : List Nat) (k : Nat) (h : k < m.length) : wsum (m.take (k + 1)) = (wsum (m.take k) + m[k]) % 18446744073709551616 := by
  simp only [wsum, List.take_add_one, List.foldl_append]
  simp [h]

set_option maxRecDepth 100000 in
set_option maxHeartbeats 800000 in
theorem tparts_c (T A : Nat) (m : List Nat) (w : World) (h : Tal T A m w) :
    Calls Try.prog 21 #[.pointer (some ⟨T, 0, none⟩), .nilIface] w fun e w' =>
      ∃ O, e = .returned (.tuple #[.slice (some ⟨O, 0, none⟩) m.length m.length, .int .i64 0]) ∧ Row w' O (uw m) 23 ∧ Sm (fun _ => False) w w' ∧ w.heap.size ≤ O := by
  have hle := h.le
  have h0 : w.cell? ⟨T, 0, none⟩ = some (.slice (some ⟨A, 0, none⟩) m.length m.length) := h.rT.cell 0
  have H0 := Lib.hid (tnone_c T A m w h)
  have hm := make_u64s m.length (by omega) w
  have H := Lib.hid h
  clear h
  go_enter Try.func21, Try.ntmps21
  go_wp2_with fail
  refine H0.out.mono ?_
  rintro e w' ⟨rfl, rfl⟩
  have hn0 : Row (w.alloc (.cells (uw (List.replicate m.length 0)) 23 (0, 0))) w.heap.size (uw (List.replicate m.length 0)) 23 := Row.new w _ _
  obtain ⟨w1, hw1⟩ : ∃ w1 : World, w1 = w.alloc (.cells (uw (List.replicate m.length 0)) 23 (0, 0)) := ⟨_, rfl⟩
  obtain ⟨O, hO⟩ : ∃ O : Nat, O = w.heap.size := ⟨_, rfl⟩
  have hs1 : Sm (fun _ => False) w w1 := by rw [hw1]; exact (Sm.refl _ _).alloc _
  rw [← hw1, ← hO] at hm
  rw [← hw1, ← hO] at hn0
  have HO := Lib.hid hO
  have HN0 := Lib.hid hn0
  have HS1 := Lib.hid hs1
  have h1 : w1.cell? ⟨T, 0, none⟩ = some (.slice (some ⟨A, 0, none⟩) m.length m.length) := (H.out.sm hs1 (fun h => h) (fun h => h)).rT.cell 0
  clear hw1 hO hn0 hs1
  go_wp2
  go_loopw [7, 21] (fun s7 s21 wr => ∃ k : Nat, k ≤ m.length ∧ s21 = .int .i64 k ∧ Hid (Row wr O (uw (upto m k)) 23) ∧ Hid (Sm (fun _ => False) w wr)) (fun s7 s21 _ => m.length - (intOf s21).toNat)
  case atStart => exact ⟨0, by omega, rfl, Lib.hid (by rw [upto_zero]; exact HN0.out), HS1⟩
  case round =>
    obtain ⟨k, hk, rfl, hR, hS⟩ := hrel
    have ht : Tal T A m wr := H.out.sm hS.out (fun h => h) (fun h => h)
    by_cases hlt : k < m.length
    · have i1 : (k : Int) < (m.length : Int) := by omega
      have hp : wrap64 ((k : Int) + 1) = ((k + 1 : Nat) : Int) := by unfold wrap64; omega
      have HP := Lib.hid hp
      clear hp
      have hc : wr.cell? ⟨T, 0, none⟩ = some (.slice (some ⟨A, 0, none⟩) m.length m.length) := ht.rT.cell 0
      have HT := Lib.hid ht
      clear ht
      go_wp2_with fail
      refine (tstep_nil _ _ _).mono ?_
      rintro e w' ⟨rfl, rfl⟩
      go_wp2_with fail
      refine (aload ⟨A, k, none⟩ m[k] _ ((HT.out.rA.cell k).trans (uw_get m k hlt))).mono ?_
      rintro e w' ⟨rfl, rfl⟩
      have hg : wr.cell? ⟨O, k, none⟩ = some (.int .u64 ((upto m k)[k]'(by rw [upto_len _ _ hk]; exact hlt) : Nat)) := (hR.out.cell k).trans (uw_get _ k (by rw [upto_len _ _ hk]; exact hlt))
      have hf : wr.frozen? ⟨O, k, none⟩ = false := hR.out.free k
      have hnx : Hid (Row (wr.setCell ⟨O, k, none⟩ (.int .u64 (m[k] : Nat))) O (uw (upto m (k + 1))) 23) := by
        apply Lib.hid
        rw [← upto_set m k hlt, ← uw_set]
        exact hR.out.set _ _
      have hsx : Hid (Sm (fun _ => False) w (wr.setCell ⟨O, k, none⟩ (.int .u64 (m[k] : Nat)))) := Lib.hid (hS.out.setNew (by rw [← HO.out]; exact Nat.le_refl _) _)
      go_wp2
      go_roundw
      case rel => exact ⟨k + 1, by omega, by first | rw [HP.out] | go_num, hnx, hsx⟩
      case measure => (try rw [HP.out]); simp only [intOf]; omega
    · have hkk : k = m.length := by omega
      subst hkk
      have i1 : ¬ (m.length : Int) < (m.length : Int) := by omega
      clear ht
      go_wp2
      go_ret2
      refine ⟨O, rfl, ?_, hS.out, by rw [← HO.out]; exact Nat.le_refl _⟩
      have := hR.out
      rw [upto_all] at this
      exact this

set_option maxRecDepth 100000 in
set_option maxHeartbeats 800000 in
theorem tsum_c (T A : Nat) (m : List Nat) (w : World) (h : Tal T A m w) :
    Calls Try.prog 20 #[.pointer (some ⟨T, 0, none⟩), .nilIface] w fun e w' =>
      e = .returned (.tuple #[.int .u64 (wsum m : Nat), .int .i64 0]) ∧ Sm (fun _ => False) w w' := by
  have hle := h.le
  have H := Lib.hid (tparts_c T A m w h)
  clear h
  go_enter Try.func20, Try.ntmps20
  go_wp2_with fail
  refine H.out.mono ?_
  rintro e w1 ⟨O, rfl, hr, hs, -⟩
  have HR := Lib.hid hr
  have HS := Lib.hid hs
  clear hr hs
  go_wp2
  go_loop [8, 10, 19] (fun s8 s10 s19 => ∃ k : Nat, k ≤ m.length ∧ s19 = .int .i64 k ∧ s8 = .int .u64 (wsum (m.take k) : Nat)) (fun s8 s10 s19 => m.length - (intOf s19).toNat)
  case atStart => exact ⟨0, by omega, rfl, rfl⟩
  case round =>
    obtain ⟨k, hk, rfl, rfl⟩ := hrel
    by_cases hlt : k < m.length
    · have i1 : (k : Int) < (m.length : Int) := by omega
      have hp : wrap64 ((k : Int) + 1) = ((k + 1 : Nat) : Int) := by unfold wrap64; omega
      have HP := Lib.hid hp
      clear hp
      have hc : w1.cell? ⟨O, k, none⟩ = some (.int .u64 (m[k] : Nat)) := (HR.out.cell k).trans (uw_get m k hlt)
      have hw : IntKind.u64.wrap ((wsum (m.take k) : Nat) + (m[k] : Nat) : Int) = ((wsum (m.take (k + 1)) : Nat) : Int) := by
        rw [wsum_succ m k hlt, IntKind.wrap_u64]; omega
      go_wp2
      go_round
      case rel => exact ⟨k + 1, by omega, by first | rw [HP.out] | go_num, rfl⟩
      case measure => (try rw [HP.out]); simp only [intOf]; omega
    · have hkk : k = m.length := by omega
      subst hkk
      have i1 : ¬ (m.length : Int) < (m.length : Int) := by omega
      go_wp2
      go_ret2
      refine ⟨?_, HS.out⟩
      simp
end Go.Proofs.Ytdedmmjmiakidaa
/- Package tally, walked alone: NewHist, Hist.Add, Hist.Get. -/
namespace Go.Proofs.Ytdedmmjmiakidaa
open Go.RowKit
set_option linter.unusedVariables false

/-- A histogram's block: made, and its 67 words. -/
def hst (m : List Nat) : Array Value := #[.bool true] ++ uw m
theorem hst_get (m : List Nat) (i : Nat) (h : i < m.length) : (hst m)[1 + i]? = some (.int .u64 (m[i] : Nat)) := by
  have := uw_get m i h
  rw [hst, Array.getElem?_append_right (by simp)]
  simpa using this
theorem hst_made (m : List Nat) : (hst m)[0]? = some (.bool true) := by
  rw [hst, Array.getElem?_append_left (by simp)]
  rfl
theorem hst_set (m : List Nat) (i v : Nat) : (hst m).setIfInBounds (1 + i) (.int .u64 (v : Int)) = hst (m.set i v) := by
  simp [hst, ← uw_set]

structure His (H : Nat) (m : List Nat) (w : World) : Prop where
  r : Row w H (hst m) 58
  len : m.length = 67

theorem His.sm {F : Nat → Prop} {H : Nat} {m : List Nat} {w w' : World} (h : His H m w) (k : Sm F w w') (hf : ¬ F H) : His H m w' := ⟨h.r.sm k hf, h.len⟩
theorem His.of_heap {H : Nat} {m : List Nat} {w w' : World} (h : His H m w) (e : w'.heap[H]? = w.heap[H]?) : His H m w' := ⟨h.r.of_heap e, h.len⟩
theorem His.setw {H : Nat} {m : List Nat} {w : World} (h : His H m w) (i v : Nat) : His H (m.set i v) (w.setCell ⟨H, 1 + i, none⟩ (.int .u64 (v : Int))) :=
  ⟨by rw [← hst_set]; exact h.r.set _ _, by simpa using h.len⟩
theorem His.at {H : Nat} {m : List Nat} {w : World} (h : His H m w) (i : Nat) (hi : i < m.length) : w.cell? ⟨H, 1 + i, none⟩ = some (.int .u64 (m[i] : Nat)) := (h.r.cell _).trans (hst_get m i hi)

theorem zero_hist : Try.zeroCells58.setIfInBounds 0 (.bool true) = hst (List.replicate 67 0) := by kernel_rfl

theorem newHist_c (w : World) : Calls Try.prog 16 #[] w fun e w' =>
    e = .returned (.pointer (some ⟨w.heap.size, 0, none⟩)) ∧ Sm (fun _ => False) w w' ∧ His w.heap.size (List.replicate 67 0) w' := by
  go_enter Try.func16, Try.ntmps16
  go_wp2
  go_ret
  refine ⟨rfl, (Sm.refl _ _).alloc _, ?_, by simp⟩
  rw [← zero_hist]
  exact Row.new w _ _

theorem bitLen_zero : Lib.bitLen 0 = 0 := by decide
theorem bitLen_le : ∀ (j v : Nat), v < 2 ^ j → j ≤ 64 → Lib.bitLen v ≤ j
  | 0, v, h, _ => by
    have : v = 0 := by simpa using h
    subst this
    simp [bitLen_zero]
  | j + 1, v, h, hj => by
    by_cases h0 : v = 0
    · subst h0; simp [bitLen_zero]
    · have hv : v < 2 ^ 64 := Nat.lt_of_lt_of_le h (Nat.pow_le_pow_right (by decide) hj)
      rw [Lib.bitLen_half v h0 hv]
      have := bitLen_le j (v / 2) (by rw [Nat.pow_succ] at h; omega) (by omega)
      omega

/-- What a number that comes makes of the 67 words. -/
def come (m : List Nat) (v : Nat) : List Nat :=
  let k := Lib.bitLen v
  let m1 := m.set k ((m.getD k 0 + 1) % 18446744073709551616)
  let m2 := m1.set 65 ((m.getD 65 0 + v) % 18446744073709551616)
  if v ≤ m.getD 66 0 then m2 else m2.set 66 v
theorem come_len (m : List Nat) (v : Nat) : (come m v).length = m.length := by
  unfold come; split <;> simp

set_option maxRecDepth 100000 in
set_option maxHeartbeats 800000 in
theorem hadd_c {g : Value} {B H : Nat} {G : World → List (Int × Int) → Prop} (hG : GateOk g B (fun k => k = H) G) (hBH : B ≤ H) (m : List Nat) (v : Nat) (hv : v < 18446744073709551616) (w : World) (L : List (Int × Int)) (hL : L.length + 20 ≤ 1000000) (hg : G w L) (h : His H m w) :
    Calls Try.prog 17 #[.pointer (some ⟨H, 0, none⟩), g, .int .u64 v] w fun e w' =>
      e = .returned (.int .i64 0) ∧ G w' (L ++ ([(3, (Lib.bitLen v : Int)), (3, 65), (1, 66)] ++ (if v ≤ m.getD 66 0 then [] else [(5, 66)]))) ∧ Below B w w' ∧ His H (come m v) w' := by
  obtain ⟨k, hk⟩ : ∃ k, k = Lib.bitLen v := ⟨_, rfl⟩
  have hk64 : k ≤ 64 := by rw [hk]; exact bitLen_le 64 v hv (by decide)
  have hlen := h.len
  have hm : w.cell? ⟨H, 0, none⟩ = some (.bool true) := (h.r.cell 0).trans (hst_made m)
  obtain ⟨x0, hx0⟩ : ∃ x, x = m.getD k 0 := ⟨_, rfl⟩
  obtain ⟨x5, hx5⟩ : ∃ x, x = m.getD 65 0 := ⟨_, rfl⟩
  obtain ⟨x6, hx6⟩ : ∃ x, x = m.getD 66 0 := ⟨_, rfl⟩
  obtain ⟨s0, hs0⟩ : ∃ s, s = (x0 + 1) % 18446744073709551616 := ⟨_, rfl⟩
  obtain ⟨s5, hs5⟩ : ∃ s, s = (x5 + v) % 18446744073709551616 := ⟨_, rfl⟩
  have e0 : ∀ hh : k < m.length, m[k] = x0 := fun hh => by rw [hx0]; simp [hh]
  have e5 : ∀ hh : 65 < (m.set k s0).length, (m.set k s0)[65] = x5 := fun hh => by rw [hx5, List.getElem_set_ne (by omega)]; simp [hlen]
  have e6 : ∀ hh : 66 < ((m.set k s0).set 65 s5).length, ((m.set k s0).set 65 s5)[66] = x6 := fun hh => by rw [hx6, List.getElem_set_ne (by omega), List.getElem_set_ne (by omega)]; simp [hlen]
  have hres : come m v = if v ≤ x6 then (m.set k s0).set 65 s5 else ((m.set k s0).set 65 s5).set 66 v := by
    unfold come
    simp only [← hk, ← hx0, ← hx5, ← hx6, ← hs0, ← hs5]
  obtain ⟨M, hM⟩ : ∃ M, M = come m v := ⟨_, rfl⟩
  obtain ⟨LL, hLL⟩ : ∃ LL, LL = L ++ ([(3, (Lib.bitLen v : Int)), (3, 65), (1, 66)] ++ (if v ≤ m.getD 66 0 then [] else [(5, 66)])) := ⟨_, rfl⟩
  rw [← hM, ← hLL]
  rw [← hk, ← hx6] at hLL
  rw [hres] at hM
  have HM := Lib.hid hM
  have HLL := Lib.hid hLL
  have HE0 := Lib.hid e0
  have HE5 := Lib.hid e5
  have HE6 := Lib.hid e6
  have HS0 := Lib.hid hs0
  have HS5 := Lib.hid hs5
  have HB := Lib.hid (Try.bits_Len64 v w (by omega) (by omega))
  have HK := Lib.hid hk
  clear e0 e5 e6 hs0 hs5 hres hx0 hx5 hx6 hk hM hLL
  go_enter Try.func17, Try.ntmps17
  go_wp2_with fail
  refine HB.out.mono ?_
  rintro e w' ⟨rfl, rfl⟩
  rw [show Lib.bitLen (v : Int).toNat = k from HK.out.symm]
  go_wp2_with fail
  refine (hG.step _ _ _ _ (by omega) hg).mono ?_
  rintro e w1 ⟨rfl, hg1, hb1, hk1⟩
  have h1 := h.of_heap (hk1 H rfl)
  clear hk1 h hm
  have i0 : (0 : Int) ≤ (k : Int) := by omega
  have i1 : (k : Int) < 67 := by omega
  have hkl : k < m.length := by omega
  have c1 := h1.at k hkl
  have f1 := h1.r.free (1 + k)
  have HC1 := Lib.hid c1
  clear c1
  go_wp2_with fail
  refine (aadd ⟨H, 1 + k, none⟩ (m[k]'hkl) 1 s0 _ HC1.out f1 (by rw [HE0.out hkl]; exact HS0.out.symm)).mono ?_
  rintro e w2 ⟨rfl, hw2⟩
  have h2 := h1.setw k s0
  rw [hw2] at h2
  have hg2 := hG.keep _ w2 _ hg1 (by rw [← hw2]; exact (Sm.refl (fun k => k = H) _).setCell (show (fun k => k = H) H from rfl) _)
  have hb2 := hb1.setCell (p := ⟨H, 1 + k, none⟩) hBH (.int .u64 (s0 : Int))
  rw [hw2] at hb2
  clear hw2 hb1 hg1 f1 h1 HC1
  go_wp2_with fail
  refine (hG.step _ _ _ _ (by (try simp only [List.length_append, List.length_cons, List.length_nil]); omega) hg2).mono ?_
  rintro e w3 ⟨rfl, hg3, hb3, hk3⟩
  have h3 := h2.of_heap (hk3 H rfl)
  clear hk3 h2
  have l5 : 65 < (m.set k s0).length := by simp; omega
  have HC1 := Lib.hid (h3.at 65 l5)
  have f1 := h3.r.free (1 + 65)
  go_wp2_with fail
  refine (aadd ⟨H, 1 + 65, none⟩ ((m.set k s0)[65]'l5) v s5 _ HC1.out f1 (by rw [HE5.out l5]; exact HS5.out.symm)).mono ?_
  rintro e w4 ⟨rfl, hw4⟩
  have h4 := h3.setw 65 s5
  rw [hw4] at h4
  have hg4 := hG.keep _ w4 _ hg3 (by rw [← hw4]; exact (Sm.refl (fun k => k = H) _).setCell (show (fun k => k = H) H from rfl) _)
  have hb4 := (hb2.trans hb3).setCell (p := ⟨H, 1 + 65, none⟩) hBH (.int .u64 (s5 : Int))
  rw [hw4] at hb4
  clear hw4 hb2 hb3 hg3 f1 h3 HC1
  go_wp2
  refine wp_loop_rounds 1 ?_
  rw [rounds_succ]
  go_wp2_with fail
  refine (hG.step _ _ _ _ (by (try simp only [List.length_append, List.length_cons, List.length_nil]); omega) hg4).mono ?_
  rintro e w5 ⟨rfl, hg5, hb5, hk5⟩
  have h5 := h4.of_heap (hk5 H rfl)
  clear hk5 h4
  have l6 : 66 < ((m.set k s0).set 65 s5).length := by simp; omega
  have c6 := h5.at 66 l6
  rw [HE6.out l6] at c6
  have f6 := h5.r.free (1 + 66)
  go_wp2_with fail
  refine (aload ⟨H, 1 + 66, none⟩ x6 _ c6).mono ?_
  rintro e w6 ⟨rfl, rfl⟩
  have HF6 := Lib.hid f6
  clear f6
  by_cases hvx : v ≤ x6
  · have hvi : (v : Int) ≤ (x6 : Int) := by omega
    go_wp2
    go_ret
    refine ⟨rfl, ?_, hb4.trans hb5, ?_⟩
    · rw [HLL.out, if_pos hvx]
      simpa using hg5
    · rw [HM.out, if_pos hvx]
      exact h5
  · have hvi : ¬ (v : Int) ≤ (x6 : Int) := by omega
    clear c6
    go_wp2_with fail
    refine (hG.step _ _ _ _ (by (try simp only [List.length_append, List.length_cons, List.length_nil]); omega) hg5).mono ?_
    rintro e w7 ⟨rfl, hg7, hb7, hk7⟩
    have h7 := h5.of_heap (hk7 H rfl)
    clear hk7 h5
    have c7 := h7.at 66 l6
    rw [HE6.out l6] at c7
    have HC7 := Lib.hid c7
    clear c7
    go_wp2_with fail
    refine (acas_hit ⟨H, 1 + 66, none⟩ x6 v _ HC7.out (h7.r.free _)).mono ?_
    rintro e w8 ⟨rfl, hw8⟩
    have h8 := h7.setw 66 v
    rw [hw8] at h8
    have hg8 := hG.keep _ w8 _ hg7 (by rw [← hw8]; exact (Sm.refl (fun k => k = H) _).setCell (show (fun k => k = H) H from rfl) _)
    have hb8 := ((hb4.trans hb5).trans hb7).setCell (p := ⟨H, 1 + 66, none⟩) hBH (.int .u64 (v : Int))
    rw [hw8] at hb8
    clear hw8
    go_wp2
    go_ret
    refine ⟨rfl, ?_, hb8, ?_⟩
    · rw [HLL.out, if_neg hvx]
      simpa using hg8
    · rw [HM.out, if_neg hvx]
      exact h8
end Go.Proofs.Ytdedmmjmiakidaa
/- Package tally, walked alone: Hist.Get without a gate. -/
namespace Go.Proofs.Ytdedmmjmiakidaa
open Go.RowKit
set_option linter.unusedVariables false

theorem zero_u67 : Try.zeroCells125 = uw (List.replicate 67 0) := by kernel_rfl
theorem zero_ah : Try.zeroCells26 = uw (List.replicate 67 0) := by kernel_rfl

theorem uw_one (l : List Nat) : (uw l).all (·.oneCell') = true := by
  simp [uw, Value.oneCell']
theorem uw_size (l : List Nat) : (uw l).size = l.length := by simp [uw]

theorem loadVar_u67 (w : World) (b T : Nat) (m : List Nat) (hlen : m.length = 67) (h : Row w b (uw m) T) : (loadVar 26 ⟨b, 0, none⟩).run Try.prog w = .ok (.agg (uw m)) w :=
  run_loadVar_row w b T 26 (uw m) (0, 0) _ h Try.underlying26 rfl (by rw [uw_size, hlen]; kernel_rfl)
theorem wpList_load_u67 {ops : Array Oper} {rest : List Oper} {o : Oper} {a : Act} {w : World} {Q : Exit → Act → World → Prop} (hgd : o.guard = none) (x : Operand) (ho : o.op = .load 26 x)
    (b T : Nat) (hx : a.eval x = .pointer (some ⟨b, 0, none⟩)) (m : List Nat) (hlen : m.length = 67) (hr : Row w b (uw m) T) (h : wpList Try.prog ops Q rest (a.put o.dst (.agg (uw m))) w) : wpList Try.prog ops Q (o :: rest) a w :=
  wpList_load_row hgd 26 x ho b hx T (uw m) (0, 0) _ hr Try.underlying26 rfl (by rw [uw_size, hlen]; kernel_rfl) h
theorem wpList_store_u67 {ops : Array Oper} {rest : List Oper} {o : Oper} {a : Act} {w : World} {Q : Exit → Act → World → Prop} (hgd : o.guard = none) (x y : Operand) (ho : o.op = .store 26 x y)
    (b T : Nat) (hx : a.eval x = .pointer (some ⟨b, 0, none⟩)) (m m' : List Nat) (hy : a.eval y = .agg (uw m')) (hlen : m.length = 67) (hlen' : m'.length = 67) (hr : Row w b (uw m) T) (h : wpList Try.prog ops Q rest (a.put o.dst undef) (w.setRow b (uw m'))) : wpList Try.prog ops Q (o :: rest) a w :=
  wpList_plain hgd fun _ hK => wp_store_row 26 x y ho b (uw m') hx hy T (uw m) hr (by rw [uw_size, hlen']; kernel_rfl) (by simp [uw_size, hlen, hlen']) (uw_one m') (hK _ _ h)
theorem results_u67 {fn : Func} {p q : Tmp} (h : fn.results = #[.cell p 26, .tmp q]) (tmps : Array Value) (w : World) (b T : Nat) (m : List Nat) (hlen : m.length = 67) (hp : tmps.getD p undef = .pointer (some ⟨b, 0, none⟩)) (hr : Row w b (uw m) T) :
    (results fn tmps).run Try.prog w = .ok (.tuple #[.agg (uw m), tmps.getD q undef]) w := by
  have hp' : tmps[p]?.getD undef = .pointer (some ⟨b, 0, none⟩) := by simpa using hp
  simp [results, h, hp', asAddr, loadVar_u67 w b T m hlen hr]
theorem Row.setRow {w : World} {b : Nat} {c c' : Array Value} {T : TypeId} (h : Row w b c T) : Row (w.setRow b c') b c' T := setRow_heap w b c c' T (0, 0) h
theorem uw_splice (m a : List Nat) (hlen : m.length = 67) : splice (uw (((List.replicate 67 0).set 65 (m.getD 65 0)).set 66 (m.getD 66 0))).toList 0 (uw (m.take 65)).toList = (uw m).toList := by
  have h1 : (((List.replicate 67 0).set 65 (m.getD 65 0)).set 66 (m.getD 66 0)).drop 65 = m.drop 65 := by
    apply List.ext_getElem
    · simp [hlen]
    · intro i h1 h2
      simp [hlen] at h2
      simp only [List.getElem_drop, List.getElem_set, List.getElem_replicate, List.getD_eq_getElem?_getD]
      rcases (by omega : i = 0 ∨ i = 1) with rfl | rfl <;> simp [hlen]
  have h2 : (uw (m.take 65)).toList.length = 65 := by simp [uw_size, hlen]
  simp only [splice, List.take_zero, List.nil_append, Nat.zero_add, h2]
  simp only [uw]
  rw [← List.map_drop, h1, ← List.map_append, List.take_append_drop]

set_option maxRecDepth 100000 in
set_option maxHeartbeats 800000 in
theorem hget_c (H : Nat) (m : List Nat) (w : World) (h : His H m w) :
    Calls Try.prog 18 #[.pointer (some ⟨H, 0, none⟩), .nilIface] w fun e w' =>
      e = .returned (.tuple #[.agg (uw m), .int .i64 0]) ∧ Sm (fun _ => False) w w' := by
  have hlen := h.len
  have hm1 : ∀ o, (w.alloc o).cell? ⟨H, 0, none⟩ = some (.bool true) := fun o => ((h.r.alloc o).cell 0).trans (hst_made m)
  go_enter Try.func18, Try.ntmps18
  go_wp2
  clear hm1
  have q1 : Row ((w.alloc (.cells Try.zeroCells26 26)).alloc (.cells Try.zeroCells125 125)) w.heap.size (uw (List.replicate 67 0)) 26 := by
    rw [zero_ah]; exact (Row.new w _ _).alloc _
  have q2 : Row ((w.alloc (.cells Try.zeroCells26 26)).alloc (.cells Try.zeroCells125 125)) (w.heap.size + 1) (uw (List.replicate 67 0)) 125 := by
    rw [zero_u67]
    simpa using Row.new (w.alloc (.cells Try.zeroCells26 26)) (uw (List.replicate 67 0)) 125
  have q3 : Sm (fun _ => False) w ((w.alloc (.cells Try.zeroCells26 26)).alloc (.cells Try.zeroCells125 125)) := ((Sm.refl _ _).alloc _).alloc _
  obtain ⟨R, hR⟩ : ∃ R, R = w.heap.size := ⟨_, rfl⟩
  obtain ⟨w1, hw1⟩ : ∃ w1, w1 = ((w.alloc (.cells Try.zeroCells26 26)).alloc (.cells Try.zeroCells125 125)) := ⟨_, rfl⟩
  rw [← hw1] at q1 q2 q3
  rw [← hw1]
  simp only [← hR] at q1 q2 q3 ⊢
  have Q1 := Lib.hid q1
  have Q2 := Lib.hid q2
  have Q3 := Lib.hid q3
  have HR := Lib.hid hR
  have HH := Lib.hid h
  clear q1 q2 q3 hw1 hR h
  go_loopw [8, 23] (fun s8 s23 wr => ∃ k : Nat, k ≤ 67 ∧ s23 = .int .i64 k ∧ Hid (Row wr (R + 1) (uw (upto m k)) 125) ∧ Hid (Row wr R (uw (List.replicate 67 0)) 26) ∧ Hid (Sm (fun _ => False) w wr)) (fun s8 s23 _ => 67 - (intOf s23).toNat)
  case atStart => exact ⟨0, by omega, rfl, Lib.hid (by rw [upto_zero, hlen]; exact Q2.out), Q1, Q3⟩
  case round =>
    obtain ⟨k, hk, rfl, hA, hO, hS⟩ := hrel
    have ht : His H m wr := HH.out.sm hS.out (fun h => h)
    by_cases hlt : k < 67
    · have i1 : (k : Int) < 67 := by omega
      have hkl : k < m.length := by omega
      have hp : wrap64 ((k : Int) + 1) = ((k + 1 : Nat) : Int) := by unfold wrap64; omega
      have HP := Lib.hid hp
      clear hp
      have hlu : k < (upto m k).length := by rw [upto_len _ _ (by omega)]; exact hkl
      go_wp2_with fail
      refine (tstep_nil _ _ _).mono ?_
      rintro e w' ⟨rfl, rfl⟩
      go_wp2_with fail
      refine (aload ⟨H, 1 + k, none⟩ (m[k]'hkl) _ (ht.at k hkl)).mono ?_
      rintro e w' ⟨rfl, rfl⟩
      have hg : wr.cell? ⟨R + 1, k, none⟩ = some (.int .u64 ((upto m k)[k]'hlu : Nat)) := (hA.out.cell k).trans (uw_get _ k hlu)
      have hf : wr.frozen? ⟨R + 1, k, none⟩ = false := hA.out.free k
      have hnx : Hid (Row (wr.setCell ⟨R + 1, k, none⟩ (.int .u64 (m[k]'hkl : Nat))) (R + 1) (uw (upto m (k + 1))) 125) := by
        apply Lib.hid
        rw [← upto_set m k hkl, ← uw_set]
        exact hA.out.set _ _
      have hox : Hid (Row (wr.setCell ⟨R + 1, k, none⟩ (.int .u64 (m[k]'hkl : Nat))) R (uw (List.replicate 67 0)) 26) := Lib.hid (hO.out.set_ne (by simp) _)
      have hsx : Hid (Sm (fun _ => False) w (wr.setCell ⟨R + 1, k, none⟩ (.int .u64 (m[k]'hkl : Nat)))) := Lib.hid (hS.out.setNew (by rw [← HR.out]; simp) _)
      go_wp2
      go_roundw
      case rel => exact ⟨k + 1, by omega, by first | rw [HP.out] | go_num, hnx, hox, hsx⟩
      case measure => (try rw [HP.out]); simp only [intOf]; omega
    · have hkk : k = 67 := by omega
      subst hkk
      have hA' := hA.out
      rw [← hlen, upto_all] at hA'
      obtain ⟨x5, hx5⟩ : ∃ x, x = m.getD 65 0 := ⟨_, rfl⟩
      obtain ⟨x6, hx6⟩ : ∃ x, x = m.getD 66 0 := ⟨_, rfl⟩
      have c5 : wr.cell? ⟨R + 1, 65, none⟩ = some (.int .u64 (x5 : Int)) := (hA'.cell 65).trans ((uw_get m 65 (by omega)).trans (by rw [hx5]; simp [hlen]))
      have c6 : wr.cell? ⟨R + 1, 66, none⟩ = some (.int .u64 (x6 : Int)) := (hA'.cell 66).trans ((uw_get m 66 (by omega)).trans (by rw [hx6]; simp [hlen]))
      have HX5 := Lib.hid hx5
      have HX6 := Lib.hid hx6
      clear ht hx5 hx6
      have hW : (Try.zeroCells26.setIfInBounds 65 (.int .u64 (x5 : Int))).setIfInBounds 66 (.int .u64 (x6 : Int)) = uw (((List.replicate 67 0).set 65 x5).set 66 x6) := by rw [zero_ah, uw_set, uw_set]
      have hst := run_storeCells_new (P := Try.prog) wr 26 Try.zeroCells26 ((Try.zeroCells26.setIfInBounds 65 (.int .u64 (x5 : Int))).setIfInBounds 66 (.int .u64 (x6 : Int))) (by kernel_rfl) (by simp) (by rw [hW]; exact uw_one _)
      simp only [Array.toList_setIfInBounds] at hst
      have HW := Lib.hid hW
      have HA := Lib.hid hA'
      clear hW hA'
      go_wp2
      rw [HW.out]
      obtain ⟨Z, hZ⟩ : ∃ Z, Z = ((List.replicate 67 0).set 65 x5).set 66 x6 := ⟨_, rfl⟩
      rw [← hZ]
      have hzl : Z.length = 67 := by rw [hZ]; simp
      have HZ := Lib.hid hZ
      clear hZ
      obtain ⟨O, hO1⟩ : ∃ O, O = wr.heap.size := ⟨_, rfl⟩
      obtain ⟨w3, hw3⟩ : ∃ w3, w3 = wr.alloc (.cells (uw Z) 26) := ⟨_, rfl⟩
      have r1 := Row.new wr (uw Z) 26
      have r2 := HA.out.alloc (.cells (uw Z) 26)
      have r3 := hO.out.alloc (.cells (uw Z) 26)
      have r4 := hS.out.alloc (.cells (uw Z) 26)
      have r0 := HA.out.lt
      rw [← hw3] at r1 r2 r3 r4 ⊢
      simp only [← hO1] at r0 r1 r2 r3 r4 ⊢
      have R1 := Lib.hid r1
      have R2 := Lib.hid r2
      have R3 := Lib.hid r3
      have R4 := Lib.hid r4
      clear r1 r2 r3 r4 hst c5 c6 hw3 hO1 hA hO hS HW
      have hO2 : R + 1 ≤ O := by omega
      obtain ⟨cs, hcs⟩ : ∃ cs, cs = (uw (m.take 65)).toList := ⟨_, rfl⟩
      obtain ⟨cur, hcur⟩ : ∃ cur, cur = (uw Z).toList := ⟨_, rfl⟩
      have hcl : cs.length = 65 := by rw [hcs]; simp [uw_size, hlen]
      have hul : cur.length = 67 := by rw [hcur]; simp [uw_size, hzl]
      have hsrc : ∀ j v, cs[j]? = some v → w3.drew.cell? ((⟨R + 1, 0, none⟩ : Addr).add j) = some v := by
        intro j v hv
        have hadd : (⟨R + 1, 0, none⟩ : Addr).add j = ⟨R + 1, j, none⟩ := by unfold Addr.add; split <;> simp_all
        rw [hadd, R2.out.drew.cell j]
        have hj : j < 65 := by rw [← hcl]; exact (List.getElem?_eq_some_iff.1 hv).1
        rw [hcs] at hv
        simp [uw, hj] at hv ⊢
        exact hv
      have hone : ∀ v ∈ cs, v.oneCell' = true := by
        intro v hv
        rw [hcs] at hv
        exact (Array.all_eq_true_iff_forall_mem.1 (uw_one (m.take 65))) v (by simpa using hv)
      have HCS := Lib.hid hcs
      have HCUR := Lib.hid hcur
      have HSRC := Lib.hid hsrc
      have HONE := Lib.hid hone
      clear hcs hcur hsrc hone
      go_region_law? (refine step_copy_splice rfl (.tmp 43) (.tmp 44) 38 38 rfl 23 Try.underlying38 (by kernel_rfl) (some ⟨O, 0, none⟩) (some ⟨R + 1, 0, none⟩) 65 65 67 67 (by simp [Act.eval, Act.put]) (by simp [Act.eval, Act.put]) O 0 cur 26 (by have := R1.out.drew; unfold Row at this; rw [this, HCUR.out]) cs (by rw [hcl]; rfl) (fun _ => ⟨rfl, _, rfl, HSRC.out⟩) (by omega) HONE.out O w3.drew (Below.refl _ _) (Nat.le_refl _) ?_; intro w4 hw4 hb4)
      have hz0 : splice cur 0 cs = (uw m).toList := by
        rw [HCUR.out, HCS.out, HZ.out, HX5.out, HX6.out]
        exact uw_splice m [] hlen
      have r5 : Row w4 O (uw m) 26 := by
        have := hw4.out
        rw [hz0] at this
        simpa [Row] using this
      have r6 : Row w4 R (uw (List.replicate 67 0)) 26 := R3.out.drew.of_heap (hb4.block R (by omega))
      go_wp2_with (first
        | refine wpList_load_u67 rfl (.tmp 9) rfl O _ (by simp [Act.eval]) m hlen r5 ?_
        | refine wpList_store_u67 rfl (.tmp 4) (.tmp 46) rfl R _ (by simp [Act.eval, Act.put]) (List.replicate 67 0) m (by simp [Act.eval, Act.put]) (by simp) hlen r6 ?_)
      refine bodyPost_ret (results_u67 rfl _ _ R _ m hlen rfl r6.setRow) rfl ?_
      refine ⟨rfl, ?_⟩
      have s0 := R4.out
      have hr := HR.out
      refine ⟨hb4.os.trans s0.os, hb4.tape.trans s0.tape, hb4.output.trans s0.output, ?_, fun k hk hf => ?_⟩
      · have h1 := hb4.size
        have h2 := s0.size
        simp [World.setRow] at h1 ⊢
        omega
      · rw [setRow_other w4 R k _ (by omega), hb4.block k (by omega)]
        exact s0.block k hk hf
end Go.Proofs.Ytdedmmjmiakidaa
/- Plain words: what a tally's and a histogram's calls do between two turns, told apart from memory. No condition. -/
namespace Go.Proofs.Ytdedmmjmiakidaa
open Go.Conc Go.RowKit
/-- A tally's shards, a histogram's words. -/
structure TSt where
  s : List Nat
  h : List Nat
/-- Where a call waits. -/
inductive TPos
  | add (i v : Nat)
  | part (i : Nat) (l : List Nat)
  | h1 (v : Nat)
  | h2 (v : Nat)
  | h3 (v : Nat)
  | h4 (v m : Nat)
  | get (i : Nat) (l : List Nat)
/-- What it answers. -/
inductive TRes
  | num (x : Nat)
  | list (l : List Nat)
  | come
def TPos.mark : TPos → Int × Int
  | .add i _ => (3, i)
  | .part i _ => (1, i)
  | .h1 v => (3, Lib.bitLen v)
  | .h2 _ => (3, 65)
  | .h3 _ => (1, 66)
  | .h4 _ _ => (5, 66)
  | .get i _ => (1, i)
def addAt (m : List Nat) (i v : Nat) : List Nat := m.set i ((m.getD i 0 + v) % 18446744073709551616)
def TPos.exec : TPos → TSt → TSt × (TPos ⊕ TRes)
  | .add i v, a => ({ a with s := addAt a.s i v }, .inr (.num ((a.s.getD i 0 + v) % 18446744073709551616)))
  | .part i l, a => (a, if i + 1 < a.s.length then .inl (.part (i + 1) (l ++ [a.s.getD i 0])) else .inr (.list (l ++ [a.s.getD i 0])))
  | .h1 v, a => ({ a with h := addAt a.h (Lib.bitLen v) 1 }, .inl (.h2 v))
  | .h2 v, a => ({ a with h := addAt a.h 65 v }, .inl (.h3 v))
  | .h3 v, a => (a, if v ≤ a.h.getD 66 0 then .inr .come else .inl (.h4 v (a.h.getD 66 0)))
  | .h4 v m, a => if a.h.getD 66 0 = m then ({ a with h := a.h.set 66 v }, .inr .come) else (a, .inl (.h3 v))
  | .get i l, a => (a, if i + 1 < 67 then .inl (.get (i + 1) (l ++ [a.h.getD i 0])) else .inr (.list (l ++ [a.h.getD i 0])))
/-- A tally and a histogram in memory. -/
structure TRep (T A H n : Nat) (a : TSt) (w : World) : Prop where
  tal : Tal T A a.s w
  his : His H a.h w
  len : a.s.length = n
  ls : ∀ x ∈ a.s, x < 18446744073709551616
  lh : ∀ x ∈ a.h, x < 18446744073709551616
  hT : H ≠ T
  hA : H ≠ A
theorem TRep.of_same {T A H n : Nat} {a : TSt} {w w' : World} (h : TRep T A H n a w) (hT : w'.heap[T]? = w.heap[T]?) (hA : w'.heap[A]? = w.heap[A]?) (hH : w'.heap[H]? = w.heap[H]?) : TRep T A H n a w' :=
  { h with tal := { h.tal with rT := h.tal.rT.of_heap hT, rA := h.tal.rA.of_heap hA }, his := h.his.of_heap hH }
/-- The calls. -/
def talJob (T A H n : Nat) : Job where
  St := TSt
  Pos := TPos
  Res := TRes
  mark := TPos.mark
  exec := TPos.exec
  foot := fun _ b => b = T ∨ b = A ∨ b = H
  Rep := TRep T A H n
  frame := fun a u u' h hr => hr.of_same (h T (.inl rfl)) (h A (.inr (.inl rfl))) (h H (.inr (.inr rfl)))
  real := fun a u b hr hb => by
    have key : ∀ {y : Nat} {c : Array Value} {t : TypeId}, Row u y c t → c.size ≠ 0 → ∃ o, u.heap[y]? = some o ∧ (∀ cap buf cl x r t, o ≠ .chan cap buf cl x r t) ∧ ∀ T, o ≠ .cells #[] T (0, 0) := fun h hc =>
      ⟨_, h, fun _ _ _ _ _ _ e => (by cases e), fun T e => by
        have := congrArg (fun o => match o with | Obj.cells c _ _ => c.size | _ => 0) e
        exact hc this⟩
    rcases hb with rfl | rfl | rfl
    · exact key hr.tal.rT (by simp)
    · exact key hr.tal.rA (by have := hr.tal.pos; simp [uw]; intro e; rw [e] at this; simp at this)
    · exact key hr.his.r (by simp [hst])
theorem addAt_len (m : List Nat) (i v : Nat) : (addAt m i v).length = m.length := by simp [addAt]
theorem addAt_lt (m : List Nat) (i v : Nat) (h : ∀ x ∈ m, x < 18446744073709551616) : ∀ x ∈ addAt m i v, x < 18446744073709551616 := fun x hx => by
  rcases List.mem_or_eq_of_mem_set hx with h' | rfl
  · exact h x h'
  · exact Nat.mod_lt _ (by decide)
section
variable {T A H n : Nat} {a : TSt} {u : World}
/-- A shard is counted up. -/
theorem TRep.addS (h : TRep T A H n a u) (i v : Nat) : TRep T A H n { a with s := addAt a.s i v } (u.setCell ⟨A, i, none⟩ (.int .u64 ((a.s.getD i 0 + v) % 18446744073709551616 : Nat))) := by
  have ht := h.tal
  refine ⟨⟨?_, ?_, ht.ne, by rw [addAt_len]; exact ht.pos, by rw [addAt_len]; exact ht.le⟩, ⟨h.his.r.set_ne (fun e => h.hA e.symm) _, h.his.len⟩, by rw [addAt_len]; exact h.len, addAt_lt _ _ _ h.ls, h.lh, h.hT, h.hA⟩
  · rw [addAt_len]; exact ht.rT.set_ne (fun e => ht.ne e.symm) _
  · unfold addAt; rw [← uw_set]; exact ht.rA.set i _
/-- A word of the histogram is written. -/
theorem TRep.setH (h : TRep T A H n a u) (i v : Nat) (hv : v < 18446744073709551616) : TRep T A H n { a with h := a.h.set i v } (u.setCell ⟨H, 1 + i, none⟩ (.int .u64 (v : Nat))) :=
  ⟨{ h.tal with rT := h.tal.rT.set_ne h.hT _, rA := h.tal.rA.set_ne h.hA _ }, h.his.setw i v, h.len, h.ls, fun x hx => by
    rcases List.mem_or_eq_of_mem_set hx with h' | rfl
    · exact h.lh x h'
    · exact hv, h.hT, h.hA⟩
theorem TRep.addH (h : TRep T A H n a u) (i v : Nat) : TRep T A H n { a with h := addAt a.h i v } (u.setCell ⟨H, 1 + i, none⟩ (.int .u64 ((a.h.getD i 0 + v) % 18446744073709551616 : Nat))) :=
  h.setH i _ (Nat.mod_lt _ (by decide))
theorem TRep.shard (h : TRep T A H n a u) {i : Nat} (hi : i < n) : u.cell? ⟨A, i, none⟩ = some (.int .u64 (a.s.getD i 0 : Nat)) := by
  have hl := h.len
  rw [h.tal.rA.cell, uw_get _ _ (by omega)]
  simp [show i < a.s.length by omega]
theorem TRep.word (h : TRep T A H n a u) {i : Nat} (hi : i < 67) : u.cell? ⟨H, 1 + i, none⟩ = some (.int .u64 (a.h.getD i 0 : Nat)) := by
  have hl := h.his.len
  rw [h.his.at i (by omega)]
  simp [show i < a.h.length by omega]
theorem TRep.head (h : TRep T A H n a u) : u.cell? ⟨T, 0, none⟩ = some (.slice (some ⟨A, 0, none⟩) n n) := by
  have := h.tal.rT.cell 0
  rw [h.len] at this
  exact this
theorem TRep.made (h : TRep T A H n a u) : u.cell? ⟨H, 0, none⟩ = some (.bool true) := (h.his.r.cell 0).trans (hst_made _)
end
end Go.Proofs.Ytdedmmjmiakidaa
/- Plain words: a tally's Add, in any company. No condition. -/
namespace Go.Proofs.Ytdedmmjmiakidaa
open Go.Conc Go.RowKit
section
variable {T A H n : Nat} (Γ : Gated (talJob T A H n))
theorem Gated.alone_t {m : Γ.E.ι} {k : Nat} {a : TSt} {d : TSt × (TPos ⊕ TRes)} {w : World} {c : Code} {t : Array Value} {Q : Γ.E.ι → Exit → Array Value → World → Prop} (h : Γ.At m k a d w) (hc : okCode thrOk false c = true)
    (hwp : ∀ u, TRep T A H n a u → c.wp Try.prog (onlyN fun a' u' => a'.defers = [] ∧ ∃ σ', TRep T A H n σ' u' ∧ Sm (fun b => b = T ∨ b = A ∨ b = H) u u' ∧ ∀ w', Γ.At m k σ' d w' → Q m .normal a'.tmps w') ⟨t, []⟩ u) : cps Γ.E c Q m t w :=
  Γ.alone h hc fun u hu => wp_mono (hwp u hu) fun e a' u' q => by
    cases e with
    | normal =>
      obtain ⟨q1, σ', q2, q3, q4⟩ := q
      exact ⟨rfl, q1, σ', q2, fun _ => Iff.rfl, q3, q4⟩
    | _ => exact q.elim
set_option maxRecDepth 100000 in
set_option maxHeartbeats 4000000 in
theorem add_e {i v : Nat} (hi : i < n) {m : Γ.E.ι} {k : Nat} {a : TSt} {w : World} (h : Γ.At m k a (a, .inl (.add i v)) w) {Q : Γ.E.ι → Value → World → Prop}
    (hq : ∀ m' k' a' w' (x : Nat), k' < k → x < 18446744073709551616 → Γ.At m' k' a' (a', .inr (.num x)) w' → Q m' (.tuple #[.int .u64 x, .int .i64 0]) w') :
    cpsC Γ.E 19 #[.pointer (some ⟨T, 0, none⟩), Γ.gate, .int .i64 i, .int .u64 v] Q m w := by
  have O := Γ.ok
  have hn : n ≤ 64 := by
    obtain ⟨u0, hu0⟩ := Γ.rep _ _ _ _ _ h
    have hu0 : TRep T A H n a u0 := hu0
    have := hu0.tal.le
    rw [hu0.len] at this
    exact this
  refine cpsC_body O (by rw [Γ.P]; exact Try.func19) rfl ?_
  simp only [Try.ntmps19]
  refine cps_opaque fun Q' hQ => ?_
  have Hq := Lib.hid hq
  clear hq
  walk_nrm
  repeat refine cps_seq O ?_
  (refine cps_region O ?_; simp only [List.size_toArray, List.length_cons, List.length_nil, Nat.reduceAdd, Nat.zero_add, List.range, List.range.loop])
  refine valE O Γ.P (.int .u64 0) rfl rfl (fun _ => by simp [go_sem]) (fun _ => by go_simp; try (first | rfl | (simp [*]))) ?_; try walk_nrm
  refine valE O Γ.P (.int .i64 0) rfl rfl (fun _ => by simp [go_sem]) (fun _ => by go_simp; try (first | rfl | (simp [*]))) ?_; try walk_nrm
  refine cpsR_nil O ?_
  show cps _ _ _ _ _ _
  refine cps_seq O ?_
  refine cps_block O ?_
  refine cps_seq O ?_
  refine Gated.alone_t Γ h (by kernel_rfl) fun u hu => ?_
  have hnn := tnone_c T A a.s u hu.tal
  have Hu := Lib.hid hu
  clear hu
  go_wp2_with fail
  refine hnn.mono ?_
  rintro e u1 ⟨rfl, rfl⟩
  go_wp2
  refine ⟨rfl, a, Hu.out, Sm.refl _ _, fun w3 h3 => ?_⟩
  clear hnn Hu h
  show cps _ _ _ _ _ _
  refine cps_cond O (v := false) rfl ?_
  simp only [Bool.false_eq_true, if_false]
  refine cps_seq O ?_
  refine Gated.alone_t Γ h3 (by kernel_rfl) fun u hu => ?_
  have hc := hu.head
  have Hu := Lib.hid hu
  clear hu
  have g1 : ¬ (i : Int) < 0 := by omega
  have g2 : ¬ (n : Int) ≤ (i : Int) := by omega
  go_wp2
  refine ⟨rfl, a, Hu.out, Sm.refl _ _, fun w4 h4 => ?_⟩
  clear Hu h3 hc
  show cps _ _ _ _ _ _
  refine cps_cond O (v := false) rfl ?_
  simp only [Bool.false_eq_true, if_false]
  refine cps_skip O ?_
  show cps _ _ _ _ _ _
  refine cps_seq O ?_
  (refine cps_region O ?_; simp only [List.size_toArray, List.length_cons, List.length_nil, Nat.reduceAdd, Nat.zero_add, List.range, List.range.loop])
  refine valE O Γ.P (Γ.gate) rfl rfl (fun _ => by simp [go_sem]) (fun _ => by go_simp; try (first | rfl | (simp [*]))) ?_; try walk_nrm
  refine valE O Γ.P (.int .i64 i) rfl rfl (fun _ => by simp [go_sem]) (fun _ => by go_simp; try (first | rfl | (simp [*]))) ?_; try walk_nrm
  refine callE O Γ.P (f := 46) (vals := #[Γ.gate, .int .u8 3, .int .i64 i]) rfl rfl rfl Try.func46 rfl rfl rfl ?_
  refine cpsC.mono (Γ.step h4) ?_
  rintro m6 v6 w6 ⟨rfl, k6, a6, hk6, h6⟩
  clear h4
  have hx : (talJob T A H n).exec (.add i v) a6 = ({ (a6 : TSt) with s := addAt (TSt.s a6) i v }, .inr (.num (((TSt.s a6).getD i 0 + v) % 18446744073709551616))) := rfl
  rw [hx] at h6
  clear hx
  try walk_nrm
  refine cpsR_nil O ?_
  show cps _ _ _ _ _ _
  obtain ⟨x, hx⟩ : ∃ x, x = ((TSt.s a6).getD i 0 + v) % 18446744073709551616 := ⟨_, rfl⟩
  rw [← hx] at h6
  have hxl : x < 18446744073709551616 := by rw [hx]; exact Nat.mod_lt _ (by decide)
  refine cps_seq O ?_
  refine Gated.alone_t Γ h6 (by kernel_rfl) fun u hu => ?_
  have hc := hu.head
  have hs := hu.shard hi
  have hfz := hu.tal.rA.free i
  have hadd := aadd ⟨A, i, none⟩ _ v x u hs hfz hx.symm
  have hr := hu.addS i v
  rw [← hx] at hr
  have Hr := Lib.hid hr
  clear hu hr hs hfz hx
  have g3 : decide (i < n) = true := by simpa using hi
  go_wp2_with fail
  refine hadd.mono ?_
  rintro e u1 ⟨rfl, hu1⟩
  have Hu1 := Lib.hid hu1
  clear hu1
  go_wp2
  rw [← Hu1.out]
  refine ⟨rfl, _, Hr.out, (Sm.refl _ _).setCell (.inr (.inl rfl)) _, fun w7 h7 => ?_⟩
  clear Hu1 Hr
  show cps _ _ _ _ _ _
  exact cps_ret O (hQ _ _ _ _ ⟨.inr rfl, .tuple #[.int .u64 x, .int .i64 0], ret2E O Γ.P rfl rfl, Hq.out _ _ _ _ _ hk6 hxl h7⟩)
end
end Go.Proofs.Ytdedmmjmiakidaa
/- Plain words: a histogram's Add, in any company. No condition. -/
namespace Go.Proofs.Ytdedmmjmiakidaa
open Go.Conc Go.RowKit
theorem exec_h3le {v : Nat} {a : TSt} (h : v ≤ a.h.getD 66 0) : (TPos.h3 v).exec a = (a, .inr .come) := by simp only [TPos.exec, if_pos h]
theorem exec_h3gt {v : Nat} {a : TSt} (h : ¬ v ≤ a.h.getD 66 0) : (TPos.h3 v).exec a = (a, .inl (.h4 v (a.h.getD 66 0))) := by simp only [TPos.exec, if_neg h]
theorem exec_h4hit {v m : Nat} {a : TSt} (h : a.h.getD 66 0 = m) : (TPos.h4 v m).exec a = ({ a with h := a.h.set 66 v }, .inr .come) := by simp only [TPos.exec, if_pos h]
theorem exec_h4miss {v m : Nat} {a : TSt} (h : ¬ a.h.getD 66 0 = m) : (TPos.h4 v m).exec a = (a, .inl (.h3 v)) := by simp only [TPos.exec, if_neg h]
section
variable {T A H n : Nat} (Γ : Gated (talJob T A H n))
set_option maxRecDepth 100000 in
set_option maxHeartbeats 4000000 in
theorem come_e {v : Nat} (hv : v < 18446744073709551616) {m : Γ.E.ι} {k : Nat} {a : TSt} {w : World} (h : Γ.At m k a (a, .inl (.h1 v)) w) {Q : Γ.E.ι → Value → World → Prop}
    (hq : ∀ m' k' a' w', k' < k → Γ.At m' k' a' (a', .inr .come) w' → Q m' (.int .i64 0) w') :
    cpsC Γ.E 17 #[.pointer (some ⟨H, 0, none⟩), Γ.gate, .int .u64 v] Q m w := by
  have O := Γ.ok
  obtain ⟨g, hg⟩ : ∃ g, g = Γ.gate := ⟨_, rfl⟩
  obtain ⟨b, hb⟩ : ∃ b, b = Lib.bitLen v := ⟨_, rfl⟩
  have hb64 : b ≤ 64 := by rw [hb]; exact bitLen_le 64 v hv (by decide)
  refine cpsC_body O (by rw [Γ.P]; exact Try.func17) rfl ?_
  simp only [Try.ntmps17]
  refine cps_opaque fun Q' hQ => ?_
  have Hq := Lib.hid hq
  clear hq
  rw [← hg]
  have Hg := Lib.hid hg
  have Hb := Lib.hid hb
  clear hg hb
  walk_nrm
  repeat refine cps_seq O ?_
  (refine cps_region O ?_; simp only [List.size_toArray, List.length_cons, List.length_nil, Nat.reduceAdd, Nat.zero_add, List.range, List.range.loop])
  refine valE O Γ.P (.int .i64 0) rfl rfl (fun _ => by simp [go_sem]) (fun _ => by go_simp; try (first | rfl | (simp [*]))) ?_; try walk_nrm
  refine cpsR_nil O ?_
  show cps _ _ _ _ _ _
  refine cps_seq O ?_
  refine cps_seq O ?_
  refine Gated.alone_t Γ h (by kernel_rfl) fun u hu => ?_
  have hmd := hu.made
  have Hu := Lib.hid hu
  clear hu
  go_wp2
  refine ⟨rfl, a, Hu.out, Sm.refl _ _, fun w3 h3 => ?_⟩
  clear hmd Hu h
  show cps _ _ _ _ _ _
  refine cps_cond O (v := false) rfl ?_
  simp only [Bool.false_eq_true, if_false]
  refine cps_skip O ?_
  show cps _ _ _ _ _ _
  refine cps_seq O ?_
  refine Gated.alone_t Γ h3 (by kernel_rfl) fun u hu => ?_
  have Hu := Lib.hid hu
  clear hu
  have HB := Lib.hid (Try.bits_Len64 v u (by omega) (by omega))
  go_wp2_with fail
  refine HB.out.mono ?_
  rintro e w' ⟨rfl, rfl⟩
  rw [show Lib.bitLen (v : Int).toNat = b from Hb.out.symm]
  go_wp2
  refine ⟨rfl, a, Hu.out, Sm.refl _ _, fun w4 h4 => ?_⟩
  clear Hu HB h3
  show cps _ _ _ _ _ _
  refine cps_seq O ?_
  (refine cps_region O ?_; simp only [List.size_toArray, List.length_cons, List.length_nil, Nat.reduceAdd, Nat.zero_add, List.range, List.range.loop])
  refine valE O Γ.P (g) rfl rfl (fun _ => by simp [go_sem]) (fun _ => by go_simp; try (first | rfl | (simp [*]))) ?_; try walk_nrm
  refine valE O Γ.P (.int .i64 b) rfl rfl (fun _ => by simp [go_sem]) (fun _ => by go_simp; try (first | rfl | (simp [*]))) ?_; try walk_nrm
  refine callE O Γ.P (f := 46) (vals := #[g, .int .u8 3, .int .i64 b]) rfl rfl rfl Try.func46 rfl rfl rfl ?_
  have hs := Γ.step h4
  rw [← Hg.out, show (talJob T A H n).mark (.h1 v) = (3, (b : Int)) from by rw [Hb.out]; rfl] at hs
  refine cpsC.mono hs ?_
  rintro m5 v5 w5 ⟨rfl, k5, a5, hk5, h5⟩
  clear h4 hs
  have hx : (talJob T A H n).exec (.h1 v) a5 = ({ (a5 : TSt) with h := addAt (TSt.h a5) b 1 }, .inl (.h2 v)) := by rw [Hb.out]; rfl
  rw [hx] at h5
  clear hx
  try walk_nrm
  refine cpsR_nil O ?_
  show cps _ _ _ _ _ _
  refine cps_seq O ?_
  refine Gated.alone_t Γ h5 (by kernel_rfl) fun u hu => ?_
  obtain ⟨x, hx⟩ : ∃ x, x = ((TSt.h a5).getD b 0 + 1) % 18446744073709551616 := ⟨_, rfl⟩
  have hadd := aadd ⟨H, 1 + b, none⟩ _ 1 x u (hu.word (i := b) (by omega)) (hu.his.r.free _) hx.symm
  have hr := hu.addH b 1
  rw [← hx] at hr
  have Hr := Lib.hid hr
  clear hu hr hx
  have i0 : (0 : Int) ≤ (b : Int) := by omega
  have i1 : (b : Int) < 67 := by omega
  go_wp2_with fail
  refine hadd.mono ?_
  rintro e u1 ⟨rfl, hu1⟩
  have Hu1 := Lib.hid hu1
  clear hu1
  go_wp2
  rw [← Hu1.out]
  refine ⟨rfl, _, Hr.out, (Sm.refl _ _).setCell (.inr (.inr rfl)) _, fun w6 h6 => ?_⟩
  clear Hu1 Hr hadd h5 i0 i1
  show cps _ _ _ _ _ _
  refine cps_seq O ?_
  (refine cps_region O ?_; simp only [List.size_toArray, List.length_cons, List.length_nil, Nat.reduceAdd, Nat.zero_add, List.range, List.range.loop])
  refine valE O Γ.P (g) rfl rfl (fun _ => by simp [go_sem]) (fun _ => by go_simp; try (first | rfl | (simp [*]))) ?_; try walk_nrm
  refine callE O Γ.P (f := 46) (vals := #[g, .int .u8 3, .int .i64 65]) rfl rfl rfl Try.func46 rfl rfl rfl ?_
  have hs := Γ.step h6
  rw [← Hg.out] at hs
  refine cpsC.mono hs ?_
  rintro m7 v7 w7 ⟨rfl, k7, a7, hk7, h7⟩
  clear h6 hs
  have hx : (talJob T A H n).exec (.h2 v) a7 = ({ (a7 : TSt) with h := addAt (TSt.h a7) 65 v }, .inl (.h3 v)) := rfl
  rw [hx] at h7
  clear hx
  try walk_nrm
  refine cpsR_nil O ?_
  show cps _ _ _ _ _ _
  refine cps_seq O ?_
  refine Gated.alone_t Γ h7 (by kernel_rfl) fun u hu => ?_
  obtain ⟨x', hx⟩ : ∃ x, x = ((TSt.h a7).getD 65 0 + v) % 18446744073709551616 := ⟨_, rfl⟩
  have hadd := aadd ⟨H, 1 + 65, none⟩ _ v x' u (hu.word (i := 65) (by omega)) (hu.his.r.free _) hx.symm
  have hr := hu.addH 65 v
  rw [← hx] at hr
  have Hr := Lib.hid hr
  clear hu hr hx
  go_wp2_with fail
  refine hadd.mono ?_
  rintro e u1 ⟨rfl, hu1⟩
  have Hu1 := Lib.hid hu1
  clear hu1
  go_wp2
  rw [← Hu1.out]
  refine ⟨rfl, _, Hr.out, (Sm.refl _ _).setCell (.inr (.inr rfl)) _, fun w8 h8 => ?_⟩
  clear Hu1 Hr hadd h7
  show cps _ _ _ _ _ _
  refine cps_block O ?_
  refine cps_loopm O (fun k₁ m' t w' => ∃ (a' : TSt) (y8 y9 y10 y11 y12 y13 y14 y15 y16 y17 y18 y19 y20 y21 y22 y23 y24 y25 y26 y27 y28 y29 y30 y31 y32 y33 y34 y35 y36 y37 y38 y39 y40 y41 y42 y43 y44 y45 y46 y47 y48 y49 y50 y51 y52 y53 y54 y55 : Value), k₁ < k ∧ Γ.At m' k₁ a' (a', .inl (.h3 v)) w' ∧ t = #[.pointer (some ⟨H, 0, none⟩), g, .int .u64 v, undef, undef, undef, .int .i64 0, .int .i64 b, y8, y9, y10, y11, y12, y13, y14, y15, y16, y17, y18, y19, y20, y21, y22, y23, y24, y25, y26, y27, y28, y29, y30, y31, y32, y33, y34, y35, y36, y37, y38, y39, y40, y41, y42, y43, y44, y45, y46, y47, y48, y49, y50, y51, y52, y53, y54, y55]) ?_ (m := k7) ⟨_, _, _, _, _, _, _, _, _, _, _, _, _, _, _, _, _, _, _, _, _, _, _, _, _, _, _, _, _, _, _, _, _, _, _, _, _, _, _, _, _, _, _, _, _, _, _, _, _, (by omega), h8, rfl⟩
  clear h8
  rintro k₁ m' t w' ⟨a', y8, y9, y10, y11, y12, y13, y14, y15, y16, y17, y18, y19, y20, y21, y22, y23, y24, y25, y26, y27, y28, y29, y30, y31, y32, y33, y34, y35, y36, y37, y38, y39, y40, y41, y42, y43, y44, y45, y46, y47, y48, y49, y50, y51, y52, y53, y54, y55, hk₁, h, rfl⟩
  refine cps_block O ?_
  refine cps_seq O ?_
  (refine cps_region O ?_; simp only [List.size_toArray, List.length_cons, List.length_nil, Nat.reduceAdd, Nat.zero_add, List.range, List.range.loop])
  refine valE O Γ.P (g) rfl rfl (fun _ => by simp [go_sem]) (fun _ => by go_simp; try (first | rfl | (simp [*]))) ?_; try walk_nrm
  refine callE O Γ.P (f := 46) (vals := #[g, .int .u8 1, .int .i64 66]) rfl rfl rfl Try.func46 rfl rfl rfl ?_
  have hs := Γ.step h
  rw [← Hg.out] at hs
  refine cpsC.mono hs ?_
  rintro m2 v2 w2 ⟨rfl, k2, a2, hk2, h2⟩
  clear hs h
  try walk_nrm
  refine cpsR_nil O ?_
  show cps _ _ _ _ _ _
  obtain ⟨M, hM⟩ : ∃ M, M = (TSt.h a2).getD 66 0 := ⟨_, rfl⟩
  refine cps_seq O ?_
  refine Gated.alone_t Γ h2 (by kernel_rfl) fun u hu => ?_
  have hc := hu.word (i := 66) (by omega)
  rw [← hM] at hc
  have hld := aload ⟨H, 1 + 66, none⟩ _ u hc
  have HM := Lib.hid hM
  clear hM
  have Hu := Lib.hid hu
  clear hu hc
  go_wp2_with fail
  refine hld.mono ?_
  rintro e u1 ⟨rfl, rfl⟩
  go_wp2
  refine ⟨rfl, a2, Hu.out, Sm.refl _ _, fun w3 h3 => ?_⟩
  clear Hu hld h2
  show cps _ _ _ _ _ _
  by_cases hle : v ≤ M
  · have hx : (talJob T A H n).exec (.h3 v) a2 = (a2, .inr .come) := exec_h3le (a := a2) (by rw [← HM.out]; exact hle)
    rw [hx] at h3
    clear hx HM
    refine cps_seq O ?_
    refine cps_seq O ?_
    (refine cps_region O ?_; simp only [List.size_toArray, List.length_cons, List.length_nil, Nat.reduceAdd, Nat.zero_add, List.range, List.range.loop])
    refine valE O Γ.P (.int .u64 v) rfl rfl (fun _ => by simp [go_sem]) (fun _ => by go_simp; try (first | rfl | (simp [*]))) ?_; try walk_nrm
    refine valE O Γ.P (.int .u64 M) rfl rfl (fun _ => by simp [go_sem]) (fun _ => by go_simp; try (first | rfl | (simp [*]))) ?_; try walk_nrm
    refine valE O Γ.P (.bool true) rfl rfl (fun _ => by simp [go_sem]) (fun _ => by go_simp; try (first | rfl | (simp [*]))) ?_; try walk_nrm
    refine cpsR_nil O ?_
    show cps _ _ _ _ _ _
    refine cps_cond O (v := true) rfl ?_
    simp only [if_true]
    refine cps_seq O ?_
    (refine cps_region O ?_; simp only [List.size_toArray, List.length_cons, List.length_nil, Nat.reduceAdd, Nat.zero_add, List.range, List.range.loop])
    refine valE O Γ.P (.int .i64 0) rfl rfl (fun _ => by simp [go_sem]) (fun _ => by go_simp; try (first | rfl | (simp [*]))) ?_; try walk_nrm
    refine cpsR_nil O ?_
    exact cps_ret O (hQ _ _ _ _ ⟨.inr rfl, .int .i64 0, retE O Γ.P rfl rfl, Hq.out _ _ _ _ (by omega) h3⟩)
  · have hx : (talJob T A H n).exec (.h3 v) a2 = (a2, .inl (.h4 v M)) := by
      rw [HM.out]
      exact exec_h3gt (a := a2) (by rw [← HM.out]; exact hle)
    rw [hx] at h3
    clear hx HM
    refine cps_seq O ?_
    refine cps_seq O ?_
    (refine cps_region O ?_; simp only [List.size_toArray, List.length_cons, List.length_nil, Nat.reduceAdd, Nat.zero_add, List.range, List.range.loop])
    refine valE O Γ.P (.int .u64 v) rfl rfl (fun _ => by simp [go_sem]) (fun _ => by go_simp; try (first | rfl | (simp [*]))) ?_; try walk_nrm
    refine valE O Γ.P (.int .u64 M) rfl rfl (fun _ => by simp [go_sem]) (fun _ => by go_simp; try (first | rfl | (simp [*]))) ?_; try walk_nrm
    refine valE O Γ.P (.bool false) rfl rfl (fun _ => by simp [go_sem]) (fun _ => by go_simp; try (first | rfl | (simp [*]))) ?_; try walk_nrm
    refine cpsR_nil O ?_
    show cps _ _ _ _ _ _
    refine cps_cond O (v := false) rfl ?_
    simp only [Bool.false_eq_true, if_false]
    refine cps_skip O ?_
    show cps _ _ _ _ _ _
    refine cps_seq O ?_
    (refine cps_region O ?_; simp only [List.size_toArray, List.length_cons, List.length_nil, Nat.reduceAdd, Nat.zero_add, List.range, List.range.loop])
    refine valE O Γ.P (g) rfl rfl (fun _ => by simp [go_sem]) (fun _ => by go_simp; try (first | rfl | (simp [*]))) ?_; try walk_nrm
    refine callE O Γ.P (f := 46) (vals := #[g, .int .u8 5, .int .i64 66]) rfl rfl rfl Try.func46 rfl rfl rfl ?_
    have hs := Γ.step h3
    rw [← Hg.out] at hs
    refine cpsC.mono hs ?_
    rintro m4 v4 w4 ⟨rfl, k4, a4, hk4, h4⟩
    clear hs h3
    try walk_nrm
    refine cpsR_nil O ?_
    show cps _ _ _ _ _ _
    by_cases hm : (TSt.h a4).getD 66 0 = M
    · have hx : (talJob T A H n).exec (.h4 v M) a4 = ({ (a4 : TSt) with h := (TSt.h a4).set 66 v }, .inr .come) := exec_h4hit (a := a4) hm
      rw [hx] at h4
      clear hx
      refine cps_seq O ?_
      refine Gated.alone_t Γ h4 (by kernel_rfl) fun u hu => ?_
      have hc := hu.word (i := 66) (by omega)
      rw [hm] at hc
      have hcas := acas_hit ⟨H, 1 + 66, none⟩ _ v u hc (hu.his.r.free _)
      have Hr := Lib.hid (hu.setH 66 v hv)
      clear hu hc hm
      go_wp2_with fail
      refine hcas.mono ?_
      rintro e u1 ⟨rfl, hu1⟩
      have Hu1 := Lib.hid hu1
      clear hu1
      go_wp2
      rw [← Hu1.out]
      refine ⟨rfl, _, Hr.out, (Sm.refl _ _).setCell (.inr (.inr rfl)) _, fun w5 h5 => ?_⟩
      clear Hu1 Hr hcas h4
      show cps _ _ _ _ _ _
      refine cps_cond O (v := true) rfl ?_
      simp only [if_true]
      refine cps_seq O ?_
      (refine cps_region O ?_; simp only [List.size_toArray, List.length_cons, List.length_nil, Nat.reduceAdd, Nat.zero_add, List.range, List.range.loop])
      refine valE O Γ.P (.int .i64 0) rfl rfl (fun _ => by simp [go_sem]) (fun _ => by go_simp; try (first | rfl | (simp [*]))) ?_; try walk_nrm
      refine cpsR_nil O ?_
      exact cps_ret O (hQ _ _ _ _ ⟨.inr rfl, .int .i64 0, retE O Γ.P rfl rfl, Hq.out _ _ _ _ (by omega) h5⟩)
    · have hx : (talJob T A H n).exec (.h4 v M) a4 = (a4, .inl (.h3 v)) := exec_h4miss (a := a4) hm
      rw [hx] at h4
      clear hx
      refine cps_seq O ?_
      refine Gated.alone_t Γ h4 (by kernel_rfl) fun u hu => ?_
      have hc := hu.word (i := 66) (by omega)
      have hcas := acas_miss ⟨H, 1 + 66, none⟩ _ (M : Int) v u hc (hu.his.r.free _) (by omega)
      have Hr := Lib.hid hu
      clear hu hc hm
      go_wp2_with fail
      refine hcas.mono ?_
      rintro e u1 ⟨rfl, rfl⟩
      go_wp2
      refine ⟨rfl, _, Hr.out, Sm.refl _ _, fun w5 h5 => ?_⟩
      clear Hr hcas h4
      show cps _ _ _ _ _ _
      refine cps_cond O (v := false) rfl ?_
      simp only [Bool.false_eq_true, if_false]
      refine cps_skip O ?_
      exact ⟨k4, by omega, a4, _, _, _, _, _, _, _, _, _, _, _, _, _, _, _, _, _, _, _, _, _, _, _, _, _, _, _, _, _, _, _, _, _, _, _, _, _, _, _, _, _, _, _, _, _, _, _, _, (by omega), h5, rfl⟩
end
end Go.Proofs.Ytdedmmjmiakidaa
/- Plain words: a play that ends by itself, told apart from memory. No condition. -/
namespace Go.Proofs.Ytdedmmjmiakidaa
section
variable {Y : Core}
/-- A turn of a thread that stands at pc. -/
def PSt.turn (σ : PSt Y) (i : Nat) (pc : Y.Pc) : PSt Y := ⟨(Y.next pc σ.a).1, σ.ps.set i (Y.next pc σ.a).2, σ.tr ++ [(i, (Y.mark pc).1, (Y.mark pc).2)]⟩
/-- What every turn keeps, and by what it falls. -/
structure Falls (Inv : PSt Y → Prop) (Φ : PSt Y → Nat) : Prop where
  step : ∀ (σ : PSt Y) (i : Nat) (pc : Y.Pc), Inv σ → σ.ps[i]? = some (some pc) → Inv (σ.turn i pc) ∧ Φ (σ.turn i pc) < Φ σ
variable {Inv : PSt Y → Prop} {Φ : PSt Y → Nat}
/-- .. with turns enough. -/
structure Amid (Inv : PSt Y → Prop) (Φ : PSt Y → Nat) (σ : PSt Y) : Prop where
  inv : Inv σ
  few : Φ σ + σ.tr.length ≤ 16384
theorem Amid.take (F : Falls Inv Φ) {σ : PSt Y} (h : Amid Inv Φ σ) (k : Int) : Amid Inv Φ (takeF k σ).1 ∧ ((takeF k σ).2 = true → Φ (takeF k σ).1 < Φ σ) ∧ ((takeF k σ).2 = false → (takeF k σ).1 = σ ∧ ∀ pc, 0 ≤ k → σ.ps[k.toNat]? ≠ some (some pc)) := by
  by_cases hk : k < 0
  · have e : takeF k σ = (σ, false) := by unfold takeF; rw [if_pos hk]
    rw [e]
    exact ⟨h, by simp, fun _ => ⟨rfl, fun pc h0 => by omega⟩⟩
  · obtain ⟨i, rfl⟩ : ∃ i : Nat, k = i := ⟨k.toNat, by omega⟩
    have hi : (i : Int).toNat = i := by simp
    cases hp : σ.ps[i]? with
    | none =>
      rw [take_no (.inl hp), hi, hp]
      exact ⟨h, by simp, fun _ => ⟨rfl, by simp⟩⟩
    | some q =>
      cases q with
      | none =>
        rw [take_no (.inr (.inl hp)), hi, hp]
        exact ⟨h, by simp, fun _ => ⟨rfl, by simp⟩⟩
      | some pc =>
        obtain ⟨f1, f2⟩ := F.step σ i pc h.inv hp
        have hl := h.few
        have e := take_go' hp (by omega)
        rw [e]
        refine ⟨⟨f1, ?_⟩, fun _ => f2, by simp⟩
        show Φ (σ.turn i pc) + (σ.tr ++ [_]).length ≤ _
        rw [List.length_append]
        simp only [List.length_cons, List.length_nil]
        omega
theorem Amid.order (F : Falls Inv Φ) : ∀ (l : List Int) {σ : PSt Y}, Amid Inv Φ σ → Amid Inv Φ (orderF l σ)
  | [], _, h => h
  | k :: l, _, h => Amid.order F l (h.take F k).1
theorem Amid.pass (F : Falls Inv Φ) : ∀ (l : List Nat) {σ : PSt Y} (b : Bool), Amid Inv Φ σ → let x := l.foldl (fun x (k : Nat) => ((takeF (k : Int) x.1).1, (takeF (k : Int) x.1).2 || x.2)) (σ, b)
    Amid Inv Φ x.1 ∧ Φ x.1 ≤ Φ σ ∧ (x.2 = true → b = true ∨ Φ x.1 < Φ σ) ∧ (x.2 = false → x.1 = σ ∧ ∀ k ∈ l, ∀ pc, σ.ps[k]? ≠ some (some pc))
  | [], _, _, h => ⟨h, Nat.le_refl _, .inl, fun _ => ⟨rfl, by simp⟩⟩
  | k :: l, σ, b, h => by
    obtain ⟨h1, h2, h3⟩ := h.take F (k : Int)
    have h4 := Amid.pass F l ((takeF (k : Int) σ).2 || b) h1
    simp only [List.foldl_cons] at h4 ⊢
    generalize takeF (k : Int) σ = z at h1 h2 h3 h4 ⊢
    obtain ⟨σ1, b1⟩ := z
    simp only at h1 h2 h3 h4 ⊢
    obtain ⟨q1, q2, q3, q4⟩ := h4
    cases b1 with
    | true =>
      have := h2 rfl
      refine ⟨q1, by omega, fun _ => .inr (by omega), fun e => ?_⟩
      exfalso
      have key : ∀ (l : List Nat) (σ : PSt Y), (l.foldl (fun x (k : Nat) => ((takeF (k : Int) x.1).1, (takeF (k : Int) x.1).2 || x.2)) (σ, true)).2 = true := fun l => by
        induction l with
        | nil => exact fun _ => rfl
        | cons j l ih =>
          intro σ
          simp only [List.foldl_cons, Bool.or_true]
          exact ih _
      simp only [Bool.true_or] at e
      rw [key] at e
      cases e
    | false =>
      obtain ⟨rfl, h5⟩ := h3 rfl
      simp only [Bool.false_or] at q1 q2 q3 q4 ⊢
      refine ⟨q1, q2, q3, fun e => ?_⟩
      obtain ⟨q5, q6⟩ := q4 e
      refine ⟨q5, fun j hj pc => ?_⟩
      rcases List.mem_cons.1 hj with rfl | hj
      · have := h5 pc (by omega)
        simpa using this
      · exact q6 j hj pc
theorem Amid.rest (F : Falls Inv Φ) : ∀ (n : Nat) {σ : PSt Y}, Amid Inv Φ σ → Φ σ < n → Amid Inv Φ (restF n σ) ∧ ∀ p ∈ (restF n σ).ps, p = none
  | 0, _, _, h => by omega
  | n + 1, σ, h, hn => by
    obtain ⟨h1, h2, h3, h4⟩ := Amid.pass F (List.range σ.ps.length) false h
    show Amid Inv Φ (if (passF (List.range σ.ps.length) σ).2 then restF n (passF (List.range σ.ps.length) σ).1 else (passF (List.range σ.ps.length) σ).1) ∧ ∀ p ∈ (if (passF (List.range σ.ps.length) σ).2 then restF n (passF (List.range σ.ps.length) σ).1 else (passF (List.range σ.ps.length) σ).1).ps, p = none
    change Amid Inv Φ (passF (List.range σ.ps.length) σ).1 at h1
    change Φ (passF (List.range σ.ps.length) σ).1 ≤ Φ σ at h2
    change (passF (List.range σ.ps.length) σ).2 = true → _ ∨ Φ (passF (List.range σ.ps.length) σ).1 < Φ σ at h3
    change (passF (List.range σ.ps.length) σ).2 = false → (passF (List.range σ.ps.length) σ).1 = σ ∧ _ at h4
    generalize passF (List.range σ.ps.length) σ = z at h1 h2 h3 h4 ⊢
    obtain ⟨σ1, b1⟩ := z
    simp only at h1 h2 h3 h4 ⊢
    cases b1 with
    | true =>
      have := (h3 rfl).resolve_left (by simp)
      simp only [if_true]
      exact Amid.rest F n h1 (by omega)
    | false =>
      obtain ⟨rfl, h5⟩ := h4 rfl
      simp only [Bool.false_eq_true, if_false]
      refine ⟨h1, fun p hp => ?_⟩
      obtain ⟨i, hi⟩ := List.getElem?_of_mem hp
      cases p with
      | none => rfl
      | some pc => exact absurd hi (h5 i (List.mem_range.2 (List.getElem?_eq_some_iff.1 hi).1) pc)
/-- A play that falls ends by itself. -/
theorem play_ends (F : Falls Inv Φ) {starts : List (Y.St → Y.St × Option Y.Pc)} {order : List Int} {a : Y.St} (h0 : Inv (startF starts ⟨a, [], []⟩)) (hΦ : Φ (startF starts ⟨a, [], []⟩) ≤ 16384) : Amid Inv Φ (playF starts order a) ∧ ∀ p ∈ (playF starts order a).ps, p = none := by
  have ht : ∀ (l : List (Y.St → Y.St × Option Y.Pc)) (σ : PSt Y), (startF l σ).tr = σ.tr := fun l => by
    induction l with
    | nil => exact fun _ => rfl
    | cons f l ih => exact fun σ => ih _
  have h1 : Amid Inv Φ (startF starts ⟨a, [], []⟩) := ⟨h0, by rw [ht]; simpa using hΦ⟩
  have h2 := h1.order F order
  have := h2.few
  exact Amid.rest F 16385 h2 (by omega)
end
end Go.Proofs.Ytdedmmjmiakidaa
/- Plain words: what threads that count come to, in whatever order. No condition. -/
namespace Go.Proofs.Ytdedmmjmiakidaa
open Go.ConcN (sumTo upd sumTo_upd upd_ne upd_same sumTo_congr)
section plain
theorem sumTo_one {f g : Nat → Nat} {i N : Nat} (hi : i < N) (h : ∀ k, k < N → k ≠ i → g k = f k) : sumTo N g + f i = sumTo N f + g i := by
  have h1 := sumTo_upd f (g i) (fun x => x) hi
  rw [sumTo_congr (g := fun a => upd f i (g i) a) (f := g) fun k hk => ?_]
  · exact h1
  · by_cases e : k = i
    · subst e; simp [upd]
    · simp [upd, e, h k hk e]
theorem sumTo_near {f g : Nat → Nat} {i : Nat} : ∀ {N : Nat}, i < N → (∀ k, k < N → k ≠ i → g k ≤ f k + 2) → sumTo N g + f i ≤ sumTo N f + g i + 2 * N
  | N + 1, hi, h => by
    show sumTo N g + g N + f i ≤ sumTo N f + f N + g i + 2 * (N + 1)
    by_cases e : i = N
    · subst e
      have : ∀ M, M ≤ i → sumTo M g ≤ sumTo M f + 2 * M := fun M => by
        induction M with
        | zero => intro _; exact Nat.le_refl _
        | succ M ih =>
          intro hM
          have h1 := ih (by omega)
          have h2 := h M (by omega) (by omega)
          show sumTo M g + g M ≤ sumTo M f + f M + 2 * (M + 1)
          omega
      have := this i (Nat.le_refl _)
      omega
    · have h1 := sumTo_near (N := N) (by omega) fun k hk => h k (by omega)
      have h2 := h N (by omega) (fun e' => e e'.symm)
      omega
def maxTo : Nat → (Nat → Nat) → Nat
  | 0, _ => 0
  | n + 1, f => max (maxTo n f) (f n)
theorem maxTo_congr {f g : Nat → Nat} : ∀ {N : Nat}, (∀ k, k < N → f k = g k) → maxTo N f = maxTo N g
  | 0, _ => rfl
  | N + 1, h => by unfold maxTo; rw [maxTo_congr fun k hk => h k (by omega), h N (by omega)]
theorem maxTo_one {f g : Nat → Nat} {i : Nat} : ∀ {N : Nat}, i < N → (∀ k, k < N → k ≠ i → g k = f k) → f i ≤ g i → maxTo N g = max (maxTo N f) (g i)
  | N + 1, hi, h, hle => by
    unfold maxTo
    by_cases e : i = N
    · subst e
      rw [maxTo_congr (f := g) (g := f) fun k hk => h k (by omega) (by omega)]
      omega
    · rw [maxTo_one (N := N) (by omega) (fun k hk => h k (by omega)) hle, h N (by omega) (fun e' => e e'.symm)]
      omega
theorem maxTo_lt {f : Nat → Nat} {c : Nat} (hc : 0 < c) : ∀ {N : Nat}, (∀ k, k < N → f k < c) → maxTo N f < c
  | 0, _ => hc
  | N + 1, h => by
    unfold maxTo
    have h1 := maxTo_lt hc (N := N) fun k hk => h k (by omega)
    have h2 := h N (by omega)
    omega
/-- How many of them have so many bits. -/
def cntB (b : Nat) (l : List Nat) : Nat := (l.filter fun x => Lib.bitLen x == b).length
def mxL (l : List Nat) : Nat := l.foldl max 0
theorem take_snoc (l : List Nat) (i : Nat) (h : i < l.length) : l.take (i + 1) = l.take i ++ [l.getD i 0] := by
  rw [List.take_add_one]
  simp [h]
theorem cntB_snoc (b : Nat) (l : List Nat) (x : Nat) : cntB b (l ++ [x]) = cntB b l + if Lib.bitLen x = b then 1 else 0 := by
  unfold cntB
  rw [List.filter_append, List.length_append]
  congr 1
  by_cases e : Lib.bitLen x = b <;> simp [e]
theorem mxL_snoc (l : List Nat) (x : Nat) : mxL (l ++ [x]) = max (mxL l) x := by simp [mxL, List.foldl_append]
theorem getD_setL (m : List Nat) (i j v : Nat) (hi : i < m.length) : (m.set i v).getD j 0 = if j = i then v else m.getD j 0 := by
  simp only [List.getD_eq_getElem?_getD, List.getElem?_set]
  by_cases e : i = j
  · subst e; simp [hi]
  · rw [if_neg e, if_neg (fun h => e h.symm)]
end plain
/-- Where a counting thread stands: which thread, how far in its list, whether the histogram has been called. -/
structure CC where
  k : Nat
  i : Nat
  h : Bool
section
variable (rows : List (List Nat)) (n : Nat)
def rowOf (k : Nat) : List Nat := rows.getD k []
def cntNext (k i : Nat) : Option (TPos × CC) := if i < (rowOf rows k).length then some (.add (k % n) ((rowOf rows k).getD i 0), ⟨k, i, false⟩) else none
def cntFin (c : CC) (_ : TRes) (σ : TSt × Unit) : (TSt × Unit) × Option (TPos × CC) :=
  (σ, if c.h then cntNext rows n c.k (c.i + 1) else some (.h1 ((rowOf rows c.k).getD c.i 0), { c with h := true }))
/-- How many of its numbers a thread has added, counted, summed, compared. -/
structure Pg where
  a : Nat
  c : Nat
  s : Nat
  m : Nat
def pgOf (k : Nat) : Option (TPos × CC) → Pg
  | none => ⟨(rowOf rows k).length, (rowOf rows k).length, (rowOf rows k).length, (rowOf rows k).length⟩
  | some (.add _ _, c) => ⟨c.i, c.i, c.i, c.i⟩
  | some (.h1 _, c) => ⟨c.i + 1, c.i, c.i, c.i⟩
  | some (.h2 _, c) => ⟨c.i + 1, c.i + 1, c.i, c.i⟩
  | some (.h3 _, c) => ⟨c.i + 1, c.i + 1, c.i + 1, c.i⟩
  | some (.h4 _ _, c) => ⟨c.i + 1, c.i + 1, c.i + 1, c.i⟩
  | _ => ⟨0, 0, 0, 0⟩
def okAt (k : Nat) : Option (TPos × CC) → Prop
  | none => True
  | some (.add j v, c) => c.k = k ∧ c.i < (rowOf rows k).length ∧ c.h = false ∧ j = k % n ∧ v = (rowOf rows k).getD c.i 0
  | some (.h1 v, c) => c.k = k ∧ c.i < (rowOf rows k).length ∧ c.h = true ∧ v = (rowOf rows k).getD c.i 0
  | some (.h2 v, c) => c.k = k ∧ c.i < (rowOf rows k).length ∧ c.h = true ∧ v = (rowOf rows k).getD c.i 0
  | some (.h3 v, c) => c.k = k ∧ c.i < (rowOf rows k).length ∧ c.h = true ∧ v = (rowOf rows k).getD c.i 0
  | some (.h4 v m, c) => c.k = k ∧ c.i < (rowOf rows k).length ∧ c.h = true ∧ v = (rowOf rows k).getD c.i 0 ∧ m < v
  | _ => False
/-- What the memory holds, by what has been done. -/
structure Held (a : TSt) (P : Nat → Pg) : Prop where
  sl : a.s.length = n
  hl : a.h.length = 67
  s : ∀ j, j < n → a.s.getD j 0 = sumTo rows.length (fun k => if k % n = j then ((rowOf rows k).take (P k).a).sum else 0) % 18446744073709551616
  c : ∀ b, b < 65 → a.h.getD b 0 = sumTo rows.length (fun k => cntB b ((rowOf rows k).take (P k).c)) % 18446744073709551616
  t : a.h.getD 65 0 = sumTo rows.length (fun k => ((rowOf rows k).take (P k).s).sum) % 18446744073709551616
  m : a.h.getD 66 0 = maxTo rows.length (fun k => mxL ((rowOf rows k).take (P k).m))
/-- What a place costs, at most, till the end. -/
def costOf (cur k : Nat) : Option (TPos × CC) → Nat
  | none => 0
  | some (.add _ _, c) => 40 * ((rowOf rows k).length - c.i - 1) + 40
  | some (.h1 _, c) => 40 * ((rowOf rows k).length - c.i - 1) + 39
  | some (.h2 _, c) => 40 * ((rowOf rows k).length - c.i - 1) + 38
  | some (.h3 _, c) => 40 * ((rowOf rows k).length - c.i - 1) + 37
  | some (.h4 _ m, c) => 40 * ((rowOf rows k).length - c.i - 1) + if m = cur then 36 else 38
  | _ => 0
end
section
variable {rows : List (List Nat)} {n : Nat} {a : TSt} {P : Nat → Pg} {k i : Nat}
theorem Held.add (h : Held rows n a P) (hn : 0 < n) (hk : k < rows.length) (hi : i < (rowOf rows k).length) (hp : P k = ⟨i, i, i, i⟩) : Held rows n { a with s := addAt a.s (k % n) ((rowOf rows k).getD i 0) } (upd P k ⟨i + 1, i, i, i⟩) := by
  have hkn : k % n < n := Nat.mod_lt _ hn
  refine ⟨by rw [addAt_len]; exact h.sl, h.hl, fun j hj => ?_, fun b hb => ?_, ?_, ?_⟩
  · show (addAt a.s (k % n) _).getD j 0 = _
    unfold addAt
    rw [getD_setL _ _ _ _ (by rw [h.sl]; exact hkn)]
    have e := sumTo_one (f := fun k' => if k' % n = j then ((rowOf rows k').take (P k').a).sum else 0) (g := fun k' => if k' % n = j then ((rowOf rows k').take ((upd P k ⟨i + 1, i, i, i⟩) k').a).sum else 0) hk fun k' _ hne => by simp [upd, hne]
    simp only [upd_same, hp] at e
    by_cases ej : j = k % n
    · subst ej
      rw [if_pos rfl, h.s _ hkn]
      simp only [if_true] at e
      rw [take_snoc _ _ hi, List.sum_append] at e
      simp only [List.sum_cons, List.sum_nil, Nat.add_zero] at e
      omega
    · rw [if_neg ej, h.s j hj]
      rw [if_neg (fun h => ej h.symm), if_neg (fun h => ej h.symm)] at e
      congr 1
      omega
  · rw [h.c b hb]
    congr 1
    refine sumTo_congr fun k' _ => ?_
    by_cases e : k' = k
    · subst e; simp [upd, hp]
    · simp [upd, e]
  · rw [show ({ a with s := addAt a.s (k % n) ((rowOf rows k).getD i 0) } : TSt).h = a.h from rfl, h.t]
    congr 1
    refine sumTo_congr fun k' _ => ?_
    by_cases e : k' = k
    · subst e; simp [upd, hp]
    · simp [upd, e]
  · rw [show ({ a with s := addAt a.s (k % n) ((rowOf rows k).getD i 0) } : TSt).h = a.h from rfl, h.m]
    refine maxTo_congr fun k' _ => ?_
    by_cases e : k' = k
    · subst e; simp [upd, hp]
    · simp [upd, e]
theorem Held.count (h : Held rows n a P) (hk : k < rows.length) (hi : i < (rowOf rows k).length) (hb : Lib.bitLen ((rowOf rows k).getD i 0) < 65) (hp : P k = ⟨i + 1, i, i, i⟩) : Held rows n { a with h := addAt a.h (Lib.bitLen ((rowOf rows k).getD i 0)) 1 } (upd P k ⟨i + 1, i + 1, i, i⟩) := by
  have hl := h.hl
  refine ⟨h.sl, by rw [addAt_len]; exact hl, fun j hj => ?_, fun b hb' => ?_, ?_, ?_⟩
  · rw [show ({ a with h := addAt a.h (Lib.bitLen ((rowOf rows k).getD i 0)) 1 } : TSt).s = a.s from rfl, h.s j hj]
    congr 1
    refine sumTo_congr fun k' _ => ?_
    by_cases e : k' = k
    · subst e; simp [upd, hp]
    · simp [upd, e]
  · show (addAt a.h _ _).getD b 0 = _
    unfold addAt
    rw [getD_setL _ _ _ _ (by omega)]
    have e := sumTo_one (f := fun k' => cntB b ((rowOf rows k').take (P k').c)) (g := fun k' => cntB b ((rowOf rows k').take ((upd P k ⟨i + 1, i + 1, i, i⟩) k').c)) hk fun k' _ hne => by simp [upd, hne]
    simp only [upd_same, hp] at e
    rw [take_snoc _ _ hi, cntB_snoc] at e
    by_cases eb : b = Lib.bitLen ((rowOf rows k).getD i 0)
    · rw [if_pos eb, ← eb, h.c b hb']
      rw [if_pos eb.symm] at e
      omega
    · rw [if_neg eb, h.c b hb']
      rw [if_neg (fun h => eb h.symm)] at e
      congr 1
      omega
  · show (addAt a.h _ _).getD 65 0 = _
    unfold addAt
    rw [getD_setL _ _ _ _ (by omega), if_neg (by omega), h.t]
    congr 1
    refine sumTo_congr fun k' _ => ?_
    by_cases e : k' = k
    · subst e; simp [upd, hp]
    · simp [upd, e]
  · show (addAt a.h _ _).getD 66 0 = _
    unfold addAt
    rw [getD_setL _ _ _ _ (by omega), if_neg (by omega), h.m]
    refine maxTo_congr fun k' _ => ?_
    by_cases e : k' = k
    · subst e; simp [upd, hp]
    · simp [upd, e]
theorem Held.sum (h : Held rows n a P) (hk : k < rows.length) (hi : i < (rowOf rows k).length) (hp : P k = ⟨i + 1, i + 1, i, i⟩) : Held rows n { a with h := addAt a.h 65 ((rowOf rows k).getD i 0) } (upd P k ⟨i + 1, i + 1, i + 1, i⟩) := by
  have hl := h.hl
  refine ⟨h.sl, by rw [addAt_len]; exact hl, fun j hj => ?_, fun b hb' => ?_, ?_, ?_⟩
  · rw [show ({ a with h := addAt a.h 65 ((rowOf rows k).getD i 0) } : TSt).s = a.s from rfl, h.s j hj]
    congr 1
    refine sumTo_congr fun k' _ => ?_
    by_cases e : k' = k
    · subst e; simp [upd, hp]
    · simp [upd, e]
  · show (addAt a.h _ _).getD b 0 = _
    unfold addAt
    rw [getD_setL _ _ _ _ (by omega), if_neg (by omega), h.c b hb']
    congr 1
    refine sumTo_congr fun k' _ => ?_
    by_cases e : k' = k
    · subst e; simp [upd, hp]
    · simp [upd, e]
  · show (addAt a.h _ _).getD 65 0 = _
    unfold addAt
    rw [getD_setL _ _ _ _ (by omega), if_pos rfl, h.t]
    have e := sumTo_one (f := fun k' => ((rowOf rows k').take (P k').s).sum) (g := fun k' => ((rowOf rows k').take ((upd P k ⟨i + 1, i + 1, i + 1, i⟩) k').s).sum) hk fun k' _ hne => by simp [upd, hne]
    simp only [upd_same, hp] at e
    rw [take_snoc _ _ hi, List.sum_append] at e
    simp only [List.sum_cons, List.sum_nil, Nat.add_zero] at e
    omega
  · show (addAt a.h _ _).getD 66 0 = _
    unfold addAt
    rw [getD_setL _ _ _ _ (by omega), if_neg (by omega), h.m]
    refine maxTo_congr fun k' _ => ?_
    by_cases e : k' = k
    · subst e; simp [upd, hp]
    · simp [upd, e]
/-- The greatest number, compared. -/
theorem Held.max (h : Held rows n a P) (hk : k < rows.length) (hi : i < (rowOf rows k).length) (hp : P k = ⟨i + 1, i + 1, i + 1, i⟩) {x : Nat} (hx : x = Nat.max (a.h.getD 66 0) ((rowOf rows k).getD i 0)) : Held rows n { a with h := a.h.set 66 x } (upd P k ⟨i + 1, i + 1, i + 1, i + 1⟩) := by
  have hl := h.hl
  refine ⟨h.sl, by rw [List.length_set]; exact hl, fun j hj => ?_, fun b hb' => ?_, ?_, ?_⟩
  · rw [show ({ a with h := a.h.set 66 x } : TSt).s = a.s from rfl, h.s j hj]
    congr 1
    refine sumTo_congr fun k' _ => ?_
    by_cases e : k' = k
    · subst e; simp [upd, hp]
    · simp [upd, e]
  · show (a.h.set 66 x).getD b 0 = _
    rw [getD_setL _ _ _ _ (by omega), if_neg (by omega), h.c b hb']
    congr 1
    refine sumTo_congr fun k' _ => ?_
    by_cases e : k' = k
    · subst e; simp [upd, hp]
    · simp [upd, e]
  · show (a.h.set 66 x).getD 65 0 = _
    rw [getD_setL _ _ _ _ (by omega), if_neg (by omega), h.t]
    congr 1
    refine sumTo_congr fun k' _ => ?_
    by_cases e : k' = k
    · subst e; simp [upd, hp]
    · simp [upd, e]
  · show (a.h.set 66 x).getD 66 0 = _
    rw [getD_setL _ _ _ _ (by omega), if_pos rfl]
    have e := maxTo_one (f := fun k' => mxL ((rowOf rows k').take (P k').m)) (g := fun k' => mxL ((rowOf rows k').take ((upd P k ⟨i + 1, i + 1, i + 1, i + 1⟩) k').m)) hk (fun k' _ hne => by simp [upd, hne]) (by
      simp only [upd_same, hp]
      rw [take_snoc _ _ hi, mxL_snoc]
      exact Nat.le_max_left _ _)
    rw [e, ← h.m]
    simp only [upd_same]
    rw [take_snoc _ _ hi, mxL_snoc, hx]
    have hle : mxL ((rowOf rows k).take i) ≤ a.h.getD 66 0 := by
      rw [h.m]
      have key : ∀ (N : Nat) (f : Nat → Nat) (k : Nat), k < N → f k ≤ maxTo N f := fun N f => by
        induction N with
        | zero => intro k hk; omega
        | succ N ih =>
          intro k hk
          unfold maxTo
          by_cases e : k = N
          · subst e; exact Nat.le_max_right _ _
          · exact Nat.le_trans (ih k (by omega)) (Nat.le_max_left _ _)
      have := key rows.length (fun k' => mxL ((rowOf rows k').take (P k').m)) k hk
      simp only [hp] at this
      exact this
    show Nat.max _ _ = Nat.max _ (Nat.max _ _)
    simp only [Nat.max_def]
    split <;> split <;> (try split) <;> omega
end
end Go.Proofs.Ytdedmmjmiakidaa
/- Plain words: a play of threads that count: it ends, and what it comes to. No condition. -/
namespace Go.Proofs.Ytdedmmjmiakidaa
open Go.Conc Go.RowKit
open Go.ConcN (sumTo upd sumTo_upd upd_ne upd_same sumTo_congr)
/-- What stays as it is. -/
structure Kept where
  F : Nat → Prop
  R : World → Prop
  frame : ∀ u u', (∀ b, F b → u'.heap[b]? = u.heap[b]?) → R u → R u'
  real : ∀ u b, R u → F b → ∃ o, u.heap[b]? = some o ∧ (∀ cap buf cl x r t, o ≠ .chan cap buf cl x r t) ∧ ∀ T, o ≠ .cells #[] T (0, 0)
/-- Threads that count. -/
def cntK (B T A H n : Nat) (rows : List (List Nat)) (Z : Kept) : Client (talJob T A H n) where
  B := Unit
  C := CC
  base := B
  fin := cntFin rows n
  footB := fun _ => Z.F
  RepB := fun _ => Z.R
  frameB := fun _ => Z.frame
  realB := fun _ => Z.real
section
variable {rows : List (List Nat)} {n : Nat} {a : TSt} {ps : List (Option (TPos × CC))} {k i : Nat}
structure CInv (rows : List (List Nat)) (n : Nat) (a : TSt) (ps : List (Option (TPos × CC))) : Prop where
  len : ps.length = rows.length
  ok : ∀ k p, ps[k]? = some p → okAt rows n k p
  held : Held rows n a (fun k => pgOf rows k (ps.getD k none))
def cost (rows : List (List Nat)) (a : TSt) (ps : List (Option (TPos × CC))) : Nat := sumTo rows.length (fun k => costOf rows (a.h.getD 66 0) k (ps.getD k none))
theorem ps_getD {q : Option (TPos × CC)} (hk : k < ps.length) (k' : Nat) : (ps.set k q).getD k' none = if k' = k then q else ps.getD k' none := by
  simp only [List.getD_eq_getElem?_getD, List.getElem?_set]
  by_cases e : k = k'
  · subst e; simp [hk]
  · rw [if_neg e, if_neg (fun h => e h.symm)]
theorem CInv.next (h : CInv rows n a ps) {q : Option (TPos × CC)} (hk : k < ps.length) {a' : TSt} {g : Pg} (hg : pgOf rows k q = g) (hq : okAt rows n k q) (hh : Held rows n a' (upd (fun k => pgOf rows k (ps.getD k none)) k g)) : CInv rows n a' (ps.set k q) := by
  refine ⟨by simpa using h.len, fun j p hj => ?_, ?_⟩
  · rw [List.getElem?_set] at hj
    by_cases e : k = j
    · subst e
      rw [if_pos rfl, if_pos hk] at hj
      obtain rfl := Option.some.inj hj
      exact hq
    · rw [if_neg e] at hj
      exact h.ok j p hj
  · rw [show (fun j => pgOf rows j ((ps.set k q).getD j none)) = upd (fun k => pgOf rows k (ps.getD k none)) k g from funext fun j => ?_]
    · exact hh
    · rw [ps_getD hk]
      by_cases e : j = k
      · subst e; simp [upd, hg]
      · simp [upd, e]
theorem next_pg (hi : i < (rowOf rows k).length) : pgOf rows k (cntNext rows n k (i + 1)) = ⟨i + 1, i + 1, i + 1, i + 1⟩ := by
  unfold cntNext
  split
  · rfl
  · simp only [pgOf, Pg.mk.injEq]; omega
theorem next_ok : okAt rows n k (cntNext rows n k i) := by
  unfold cntNext
  split
  · exact ⟨rfl, by assumption, rfl, rfl, rfl⟩
  · trivial
theorem next_cost (cur : Nat) (hi : i < (rowOf rows k).length) : costOf rows cur k (cntNext rows n k (i + 1)) ≤ 40 * ((rowOf rows k).length - i - 1) := by
  unfold cntNext
  split
  · simp only [costOf]; omega
  · simp [costOf]
theorem cost_same {q : Option (TPos × CC)} {a' : TSt} (hk : k < ps.length) (hl : ps.length = rows.length) (hc : a'.h.getD 66 0 = a.h.getD 66 0) (hlt : costOf rows (a.h.getD 66 0) k q < costOf rows (a.h.getD 66 0) k (ps.getD k none)) : cost rows a' (ps.set k q) < cost rows a ps := by
  unfold cost
  rw [hc]
  have e := sumTo_one (f := fun j => costOf rows (a.h.getD 66 0) j (ps.getD j none)) (g := fun j => costOf rows (a.h.getD 66 0) j ((ps.set k q).getD j none)) (i := k) (N := rows.length) (by omega) fun j _ hne => by
    simp only [ps_getD hk, if_neg hne]
  simp only [ps_getD hk, ↓reduceIte] at e ⊢
  omega
theorem cost_near (c1 c2 j : Nat) (p : Option (TPos × CC)) : costOf rows c1 j p ≤ costOf rows c2 j p + 2 := by
  rcases p with _ | ⟨p, c⟩
  · simp [costOf]
  · cases p <;> simp only [costOf] <;> (try split) <;> (try split) <;> omega
/-- What a turn of a counting thread does. -/
def cstep (rows : List (List Nat)) (n : Nat) (p : TPos × CC) (a : TSt) : TSt × Option (TPos × CC) := match p.1.exec a with
  | (a', .inl q) => (a', some (q, p.2))
  | (a', .inr r) => (a', (cntFin rows n p.2 r (a', ())).2)
theorem row_lt (hv : ∀ r ∈ rows, ∀ x ∈ r, x < 18446744073709551616) (k i : Nat) : (rowOf rows k).getD i 0 < 18446744073709551616 := by
  unfold rowOf
  by_cases hk : k < rows.length
  · rw [List.getD_eq_getElem?_getD (l := rows), List.getElem?_eq_getElem hk]
    simp only [Option.getD_some]
    by_cases hi : i < rows[k].length
    · rw [List.getD_eq_getElem?_getD, List.getElem?_eq_getElem hi]
      exact hv _ (List.getElem_mem hk) _ (List.getElem_mem hi)
    · rw [List.getD_eq_getElem?_getD, List.getElem?_eq_none (by omega)]
      simp
  · rw [List.getD_eq_getElem?_getD (l := rows), List.getElem?_eq_none (by omega)]
    simp
theorem set_self66 (m : List Nat) : m.set 66 (m.getD 66 0) = m := by
  refine List.ext_getElem? fun i => ?_
  rw [List.getElem?_set]
  by_cases e : 66 = i
  · subst e
    rw [if_pos rfl]
    by_cases h : 66 < m.length
    · simp [h]
    · simp [show m.length ≤ 66 by omega]
  · rw [if_neg e]
theorem CInv.step (h : CInv rows n a ps) (hn : 0 < n) (h16 : rows.length ≤ 16) (hv : ∀ r ∈ rows, ∀ x ∈ r, x < 18446744073709551616) {p : TPos × CC} (hp : ps[k]? = some (some p)) :
    CInv rows n (cstep rows n p a).1 (ps.set k (cstep rows n p a).2) ∧ cost rows (cstep rows n p a).1 (ps.set k (cstep rows n p a).2) < cost rows a ps := by
  obtain ⟨p, ck, ci, ch⟩ := p
  have hk := (List.getElem?_eq_some_iff.1 hp).1
  have hk' : k < rows.length := by rw [← h.len]; exact hk
  have hget : ps.getD k none = some (p, ⟨ck, ci, ch⟩) := by rw [List.getD_eq_getElem?_getD, hp]; rfl
  have hok := h.ok k _ hp
  have hh := h.held
  have hl := hh.hl
  cases p with
  | add j v =>
    obtain ⟨h1, h2, h3, h4, h5⟩ := hok
    simp only at h1 h2 h3 h4 h5
    subst h1 h3 h4 h5
    refine ⟨h.next hk (q := some (.h1 ((rowOf rows ck).getD ci 0), ⟨ck, ci, true⟩)) rfl ⟨rfl, h2, rfl, rfl⟩ (hh.add hn hk' h2 (by simp only [hget]; rfl)), cost_same (q := some (.h1 ((rowOf rows ck).getD ci 0), ⟨ck, ci, true⟩)) hk h.len rfl ?_⟩
    rw [hget]
    simp only [costOf]
    omega
  | h1 v =>
    obtain ⟨h1, h2, h3, h5⟩ := hok
    simp only at h1 h2 h3 h5
    subst h1 h3 h5
    have hb := bitLen_le 64 _ (row_lt hv ck ci) (by omega)
    refine ⟨h.next hk (q := some (.h2 ((rowOf rows ck).getD ci 0), ⟨ck, ci, true⟩)) rfl ⟨rfl, h2, rfl, rfl⟩ (hh.count hk' h2 (by omega) (by simp only [hget]; rfl)), cost_same (q := some (.h2 ((rowOf rows ck).getD ci 0), ⟨ck, ci, true⟩)) hk h.len ?_ ?_⟩
    · show (addAt _ _ _).getD 66 0 = _
      unfold addAt
      rw [getD_setL _ _ _ _ (by omega), if_neg (by omega)]
    rw [hget]
    simp only [costOf]
    omega
  | h2 v =>
    obtain ⟨h1, h2, h3, h5⟩ := hok
    simp only at h1 h2 h3 h5
    subst h1 h3 h5
    refine ⟨h.next hk (q := some (.h3 ((rowOf rows ck).getD ci 0), ⟨ck, ci, true⟩)) rfl ⟨rfl, h2, rfl, rfl⟩ (hh.sum hk' h2 (by simp only [hget]; rfl)), cost_same (q := some (.h3 ((rowOf rows ck).getD ci 0), ⟨ck, ci, true⟩)) hk h.len ?_ ?_⟩
    · show (addAt _ _ _).getD 66 0 = _
      unfold addAt
      rw [getD_setL _ _ _ _ (by omega), if_neg (by omega)]
    rw [hget]
    simp only [costOf]
    omega
  | h3 v =>
    obtain ⟨h1, h2, h3, h5⟩ := hok
    simp only at h1 h2 h3 h5
    subst h1 h3
    by_cases hle : v ≤ a.h.getD 66 0
    · have e : cstep rows n (.h3 v, ⟨ck, ci, true⟩) a = (a, cntNext rows n ck (ci + 1)) := by simp only [cstep, TPos.exec, if_pos hle, cntFin, if_true]
      rw [e]
      have hm := hh.max hk' h2 (by simp only [hget]; rfl) (x := a.h.getD 66 0) (by show _ = Nat.max _ _; rw [← h5]; simp only [Nat.max_def]; split <;> omega)
      rw [set_self66] at hm
      refine ⟨h.next hk (next_pg h2) next_ok hm, cost_same hk h.len rfl ?_⟩
      have := next_cost (n := n) (a.h.getD 66 0) h2
      rw [hget]
      simp only [costOf] at this ⊢
      omega
    · have e : cstep rows n (.h3 v, ⟨ck, ci, true⟩) a = (a, some (.h4 v (a.h.getD 66 0), ⟨ck, ci, true⟩)) := by simp only [cstep, TPos.exec, if_neg hle]
      rw [e]
      refine ⟨h.next hk rfl ⟨rfl, h2, rfl, h5, by omega⟩ ?_, cost_same hk h.len rfl ?_⟩
      · rw [show upd (fun k => pgOf rows k (ps.getD k none)) ck (pgOf rows ck (some (TPos.h4 v (a.h.getD 66 0), ⟨ck, ci, true⟩))) = fun k => pgOf rows k (ps.getD k none) from funext fun j => ?_]
        · exact hh
        · by_cases e : j = ck
          · subst e; simp only [upd, if_true, hget]; rfl
          · simp [upd, e]
      · rw [hget]
        simp only [costOf, if_true]
        omega
  | h4 v m =>
    obtain ⟨h1, h2, h3, h5, h6⟩ := hok
    simp only at h1 h2 h3 h5
    subst h1 h3
    by_cases hm : a.h.getD 66 0 = m
    · have e : cstep rows n (.h4 v m, ⟨ck, ci, true⟩) a = ({ a with h := a.h.set 66 v }, cntNext rows n ck (ci + 1)) := by
        simp only [cstep, TPos.exec, hm, if_true, cntFin]
      rw [e]
      have hmx := hh.max hk' h2 (by simp only [hget]; rfl) (x := v) (by show _ = Nat.max _ _; rw [← h5, hm]; simp only [Nat.max_def]; split <;> omega)
      refine ⟨h.next hk (next_pg h2) next_ok hmx, ?_⟩
      unfold cost
      have e1 := sumTo_near (f := fun j => costOf rows (a.h.getD 66 0) j (ps.getD j none)) (g := fun j => costOf rows ((a.h.set 66 v).getD 66 0) j ((ps.set ck (cntNext rows n ck (ci + 1))).getD j none)) hk' fun j _ hne => by
        simp only [ps_getD hk, if_neg hne]
        exact cost_near _ _ _ _
      have e2 := next_cost (n := n) ((a.h.set 66 v).getD 66 0) h2
      simp only [ps_getD hk, if_true] at e1
      rw [hget] at e1
      simp only [costOf, hm, if_true] at e1 e2 ⊢
      simp only [ps_getD hk] at e1 ⊢
      omega
    · have e : cstep rows n (.h4 v m, ⟨ck, ci, true⟩) a = (a, some (.h3 v, ⟨ck, ci, true⟩)) := by simp only [cstep, TPos.exec, hm, if_false]
      rw [e]
      refine ⟨h.next hk rfl ⟨rfl, h2, rfl, h5⟩ ?_, cost_same hk h.len rfl ?_⟩
      · rw [show upd (fun k => pgOf rows k (ps.getD k none)) ck (pgOf rows ck (some (TPos.h3 v, ⟨ck, ci, true⟩))) = fun k => pgOf rows k (ps.getD k none) from funext fun j => ?_]
        · exact hh
        · by_cases e : j = ck
          · subst e; simp only [upd, if_true, hget]; rfl
          · simp [upd, e]
      · rw [hget]
        simp only [costOf, if_neg (fun h : m = a.h.getD 66 0 => hm h.symm)]
        omega
  | part j l => exact hok.elim
  | get j l => exact hok.elim
end
end Go.Proofs.Ytdedmmjmiakidaa
/- patchbaylaw11: made and awake, walked alone. -/
namespace Go.Proofs.Ytdedmmjmiakidaa
open Go.RowKit
set_option linter.unusedVariables false

def prow (T H : Nat) (n : Nat) : Array Value := #[.pointer (some ⟨T, 0, none⟩), .pointer (some ⟨H, 0, none⟩), .int .i64 n]

/-- A pair in memory. -/
structure Pr (P T A H n : Nat) (m hm : List Nat) (w : World) : Prop where
  rP : Row w P (prow T H n) 115
  tal : Tal T A m w
  his : His H hm w
  aT : A < T
  tH : T < H
  hP : H < P

theorem Pr.sm {F : Nat → Prop} {P T A H n : Nat} {m hm : List Nat} {w w' : World} (h : Pr P T A H n m hm w) (k : Sm F w w') (hF : ∀ b, A ≤ b → b ≤ P → ¬ F b) : Pr P T A H n m hm w' :=
  { h with
    rP := h.rP.sm k (hF P (by have := h.aT; have := h.tH; have := h.hP; omega) (Nat.le_refl _))
    tal := h.tal.sm k (hF T (by have := h.aT; omega) (by have := h.tH; have := h.hP; omega)) (hF A (Nat.le_refl _) (by have := h.aT; have := h.tH; have := h.hP; omega))
    his := h.his.sm k (hF H (by have := h.aT; have := h.tH; omega) (by have := h.hP; omega)) }

set_option maxRecDepth 100000 in
theorem made_c (n : Nat) (h0 : 0 < n) (hn : n ≤ 64) (w : World) :
    Calls Try.prog 25 #[.int .i64 n] w fun e w' =>
      ∃ P T A H, w.heap.size ≤ A ∧ e = .returned (.pointer (some ⟨P, 0, none⟩)) ∧ Pr P T A H n (List.replicate n 0) (List.replicate 67 0) w' ∧ Sm (fun _ => False) w w' := by
  go_enter Try.func25, Try.ntmps25
  go_wp2_with fail
  refine (tnew_ok n h0 hn w).mono ?_
  rintro e w1 ⟨rfl, hs1, ht1⟩
  have HS1 := Lib.hid hs1
  have HT1 := Lib.hid ht1
  have HX := Lib.hid (And.intro ht1.rT.lt ht1.rA.lt)
  clear hs1 ht1
  go_wp2_with fail
  refine (newHist_c w1).mono ?_
  rintro e w2 ⟨rfl, hs2, hh2⟩
  have HS2 := Lib.hid hs2
  have HH2 := Lib.hid hh2
  clear hs2 hh2
  go_wp2
  go_ret
  have hx := HX.out
  have hl := HH2.out.r.lt
  refine ⟨w2.heap.size, w.heap.size + 1, w.heap.size, w1.heap.size, Nat.le_refl _, rfl, ⟨Row.new w2 _ _, ?_, ?_, by omega, by omega, hl⟩, (HS1.out.trans HS2.out).alloc _⟩
  · exact (HT1.out.sm HS2.out (fun h => h) (fun h => h)).sm ((Sm.refl (fun _ => False) _).alloc _) (fun h => h) (fun h => h)
  · exact HH2.out.sm ((Sm.refl (fun _ => False) _).alloc _) (fun h => h)

/-- A gate that is notes, beside something else that stays. -/
theorem gate_noteX (B nb : Nat) (X : Nat → Prop) (Y : World → Prop) (hX : ∀ k, X k → k < nb) (hB : B ≤ nb) (hY1 : ∀ w w', Y w → Sm X w w' → Y w') (hY2 : ∀ w w', Y w → Sm (fun b => nb ≤ b) w w' → Y w') :
    GateOk (.iface 61 (.pointer (some ⟨nb, 0, none⟩))) B X (fun w L => (nb < w.heap.size ∧ Noted nb w L) ∧ Y w) where
  step := fun w L op wd hL hg => (tstep_note nb op wd w L hL hg.1.2).mono fun e w' ⟨h1, h2, h3⟩ =>
    ⟨h1, ⟨⟨Nat.lt_of_lt_of_le hg.1.1 h3.size, h2⟩, hY2 w w' hg.2 h3⟩, h3.below (by omega) (fun k hk => by omega), fun k hk => h3.block k (by have := hX k hk; omega) (by have := hX k hk; omega)⟩
  keep := fun w w' L hg k => ⟨⟨Nat.lt_of_lt_of_le hg.1.1 k.size, hg.1.2.sm k (fun b hb hf => by have := hX b hf; omega)⟩, hY1 w w' hg.2 k⟩

theorem setRow_new (w : World) (m : List Nat) (hm : m.length = 67) : (w.alloc (.cells Try.zeroCells26 26)).setRow w.heap.size (uw m) = w.alloc (.cells (uw m) 26) := World.setRow_alloc_new _ _ _ _
theorem wpList_store_new67 {ops : Array Oper} {rest : List Oper} {o : Oper} {a : Act} {w : World} {Q : Exit → Act → World → Prop} (hgd : o.guard = none) (x y : Operand) (ho : o.op = .store 26 x y)
    (hx : a.eval x = .pointer (some ⟨w.heap.size, 0, none⟩)) (m' : List Nat) (hy : a.eval y = .agg (uw m')) (hlen' : m'.length = 67) (h : wpList Try.prog ops Q rest (a.put o.dst undef) (w.alloc (.cells (uw m') 26))) : wpList Try.prog ops Q (o :: rest) a (w.alloc (.cells Try.zeroCells26 26)) := by
  refine wpList_store_u67 hgd x y ho w.heap.size 26 hx (List.replicate 67 0) m' hy (by simp) hlen' (by rw [← zero_ah]; exact Row.new w _ _) ?_
  rw [setRow_new w m' hlen']
  exact h
end Go.Proofs.Ytdedmmjmiakidaa
