/- Marks and SameMarks, walked alone. -/
import Derived.Test.YtdedmmjmiakidaaFwAJ
import Derived.Shelf.Strconv.Itoa0
import Derived.Test.YtdedmmjmiakidaaProg
import Derived.Test.YtdedmmjmiakidaaFwAB
import Derived.Handy
import Derived.Laws.CopyOwn
import Derived.Laws.Rows
import Derived.Deep.WholeRow
import Derived.Test.YtdedmmjmiakidaaFwAG
set_option linter.unusedVariables false
set_option linter.unusedSimpArgs false
/- Marks and SameMarks, walked alone. -/
namespace Go.Proofs.Ytdedmmjmiakidaa
open Go.RowKit
set_option linter.unusedVariables false

theorem mks_get0 (L : List (Int × Int)) (k : Nat) (h : k < L.length) : (mks L)[2 * k]? = some (.int .u8 L[k].1) := by
  induction L generalizing k with
  | nil => simp at h
  | cons a l ih =>
    cases k with
    | zero => rfl
    | succ k =>
      have := ih k (by simpa using h)
      rw [show 2 * (k + 1) = 2 * k + 1 + 1 from by omega]
      simpa [mks] using this
theorem mks_get1 (L : List (Int × Int)) (k : Nat) (h : k < L.length) : (mks L)[2 * k + 1]? = some (.int .i64 L[k].2) := by
  induction L generalizing k with
  | nil => simp at h
  | cons a l ih =>
    cases k with
    | zero => rfl
    | succ k =>
      have := ih k (by simpa using h)
      rw [show 2 * (k + 1) + 1 = 2 * k + 1 + 1 + 1 from by omega]
      simpa [mks] using this

set_option maxHeartbeats 800000 in
theorem sameMarks_c (va vb : Value) (La Lb : List (Int × Int)) (w : World) (ha : w.ownsRow 0 118 2 va La.length (mks La)) (hb : w.ownsRow 0 118 2 vb Lb.length (mks Lb)) (hla : La.length < 1000000) :
    Calls Try.prog 44 #[va, vb] w fun e w' => e = .returned (.bool (decide (La = Lb))) ∧ Sm (fun _ => False) w w' := by
  obtain ⟨aa, ca, rfl⟩ := own_form0 ha
  obtain ⟨ab, cb, rfl⟩ := own_form0 hb
  by_cases hne : La.length = Lb.length
  · have hlt : (((La.length : Nat) : Int) != ((Lb.length : Nat) : Int)) = false := by simp [hne]
    have HNE := Lib.hid hne
    clear hne
    go_enter Try.func44, Try.ntmps44
    go_wp2
    clear hlt
    go_loopw [5] (fun s5 wr => ∃ k : Nat, k ≤ La.length ∧ s5 = .int .i64 k ∧ Hid (La.take k = Lb.take k) ∧ Sm (fun _ => False) w wr) (fun s5 _ => La.length - (intOf s5).toNat)
    case atStart => exact ⟨0, by omega, rfl, Lib.hid (by simp), Sm.refl _ _⟩
    case round =>
      obtain ⟨k, hk, rfl, hT, hS⟩ := hrel
      by_cases hlt : k < La.length
      · have hltb : k < Lb.length := by rw [← HNE.out]; exact hlt
        obtain ⟨ga, ca', hfa⟩ := own_form ha (by omega)
        obtain ⟨gb, cb', hfb⟩ := own_form hb (by omega)
        simp only [Value.slice.injEq] at hfa hfb
        obtain ⟨rfl, -, -⟩ := hfa
        obtain ⟨rfl, -, -⟩ := hfb
        have ha' := own_sm ha hS (fun _ _ h => h)
        have hb' := own_sm hb hS (fun _ _ h => h)
        have A0 : wr.cell? ⟨ga, k * 2, none⟩ = some (.int .u8 La[k].1) := by
          rw [ha'.cellAt (k * 2) (by omega), Nat.mul_comm]; exact mks_get0 La k hlt
        have A1 : wr.cell? ⟨ga, k * 2 + 1, none⟩ = some (.int .i64 La[k].2) := by
          rw [ha'.cellAt (k * 2 + 1) (by omega), Nat.mul_comm]; exact mks_get1 La k hlt
        have B0 : wr.cell? ⟨gb, k * 2, none⟩ = some (.int .u8 Lb[k].1) := by
          rw [hb'.cellAt (k * 2) (by omega), Nat.mul_comm]; exact mks_get0 Lb k hltb
        have B1 : wr.cell? ⟨gb, k * 2 + 1, none⟩ = some (.int .i64 Lb[k].2) := by
          rw [hb'.cellAt (k * 2 + 1) (by omega), Nat.mul_comm]; exact mks_get1 Lb k hltb
        obtain ⟨x0, hx0⟩ : ∃ x, x = La[k].1 := ⟨_, rfl⟩
        obtain ⟨x1, hx1⟩ : ∃ x, x = La[k].2 := ⟨_, rfl⟩
        obtain ⟨y0, hy0⟩ : ∃ x, x = Lb[k].1 := ⟨_, rfl⟩
        obtain ⟨y1, hy1⟩ : ∃ x, x = Lb[k].2 := ⟨_, rfl⟩
        rw [← hx0] at A0
        rw [← hx1] at A1
        rw [← hy0] at B0
        rw [← hy1] at B1
        have X0 := Lib.hid hx0
        have X1 := Lib.hid hx1
        have Y0 := Lib.hid hy0
        have Y1 := Lib.hid hy1
        have HA := Lib.hid ha
        have HB := Lib.hid hb
        clear hx0 hx1 hy0 hy1 ha hb ha' hb'
        have i0 : (0 : Int) ≤ (k : Int) := by omega
        have i1 : (k : Int) < (La.length : Int) := by omega
        have i2 : (k : Int) < (Lb.length : Int) := by omega
        have hsucc : x0 = y0 → x1 = y1 → Hid (La.take (k + 1) = Lb.take (k + 1)) := by
          intro e0 e1
          have h := hT.out
          apply Lib.hid
          rw [List.take_succ_eq_append_getElem hlt, List.take_succ_eq_append_getElem hltb, h]
          have : La[k] = Lb[k] := Prod.ext (by rw [← X0.out, ← Y0.out, e0]) (by rw [← X1.out, ← Y1.out, e1])
          rw [this]
        have hdiff : ¬ (x0 = y0 ∧ x1 = y1) → decide (La = Lb) = false := by
          intro hn
          rw [decide_eq_false_iff_not]
          intro e
          subst e
          exact hn ⟨by rw [X0.out, Y0.out], by rw [X1.out, Y1.out]⟩
        have HSU := Lib.hid hsucc
        have HDI := Lib.hid hdiff
        clear hsucc hdiff
        by_cases e0 : x0 = y0
        · by_cases e1 : x1 = y1
          · have E0 := Lib.hid e0
            have E1 := Lib.hid e1
            rw [← e0] at B0
            rw [← e1] at B1
            clear e0 e1
            go_wp2
            go_quiet (fail)
            go_wp2
            go_roundw
            case rel => exact ⟨k + 1, by omega, by go_num, HSU.out E0.out E1.out, hS.drewN _⟩
            case measure => simp [intOf]; omega
          · have E1 : (x1 == y1) = false := by simp [e1]
            have E0 := Lib.hid e0
            have EN := Lib.hid e1
            rw [← e0] at B0
            clear e0 e1
            go_wp2
            go_quiet (fail)
            go_wp2
            go_ret
            exact ⟨ret_bool (HDI.out (fun h => EN.out h.2)).symm, hS.drewN _⟩
        · have E0 : (x0 == y0) = false := by simp [e0]
          have EN := Lib.hid e0
          clear e0
          go_wp2
          go_quiet (fail)
          go_wp2
          go_ret
          exact ⟨ret_bool (HDI.out (fun h => EN.out h.1)).symm, hS.drewN _⟩
      · have hk' : k = La.length := by omega
        have HK := Lib.hid hk'
        have i1 : ¬ ((k : Int) < (La.length : Int)) := by omega
        clear hk'
        go_wp2
        go_ret
        refine ⟨?_, hS⟩
        have : La = Lb := by
          have h := hT.out
          rw [HK.out, List.take_length, HNE.out, List.take_length] at h
          exact h
        exact ret_bool (decide_eq_true this).symm
  · have hlt : (((La.length : Nat) : Int) != ((Lb.length : Nat) : Int)) = true := by simp; omega
    have hd : decide (La = Lb) = false := by
      rw [decide_eq_false_iff_not]
      exact fun e => hne (by rw [e])
    rw [hd]
    clear hne
    go_enter Try.func44, Try.ntmps44
    go_wp2
    go_ret
    exact ⟨rfl, Sm.refl _ _⟩
set_option maxRecDepth 100000 in
set_option maxHeartbeats 800000 in
theorem clone_c (v : Value) (L : List (Int × Int)) (b0 : Nat) (w : World) (hv : w.ownsRow b0 118 2 v L.length (mks L)) (hL : L.length < 1000000) :
    Calls Try.prog 51 #[v] w fun e w' => ∃ v', e = .returned v' ∧ w'.ownsRow w.heap.size 118 2 v' L.length (mks L) ∧ Sm (fun _ => False) w w' := by
  obtain ⟨i0, hi, hz0, hz1, hz2⟩ := info_parts info_mark
  obtain ⟨hl, hv | ⟨g, cap, cur, rfl, hg, hh, hn, hc, hsz, ht⟩⟩ := hv
  · obtain ⟨rfl, h0⟩ := hv
    have hq := fun wx => Lib.run_eql_slice_nil (P := Try.prog) wx 63 118 none 0 0 0 0 Try.underlying63
    go_enter Try.func51, Try.ntmps51
    go_wp2
    go_ret
    have e : L = [] := List.eq_nil_of_length_eq_zero h0
    subst e
    exact ⟨_, rfl, World.ownsRow_nil _ _ _ _, Sm.refl _ _⟩
  · have hq := fun wx => Lib.run_eql_slice_nil (P := Try.prog) wx 63 118 (some ⟨g, 0, none⟩) L.length cap 0 0 Try.underlying63
    have HO : Hid (w.ownsRow b0 118 2 (.slice (some ⟨g, 0, none⟩) L.length cap) L.length (mks L)) := ⟨hl, .inr ⟨g, cap, cur, rfl, hg, hh, hn, hc, hsz, ht⟩⟩
    have Hi := Lib.hid hi
    have Hz0 := Lib.hid hz0
    have Hz1 := Lib.hid hz1
    have Hz2 := Lib.hid hz2
    clear hl hg hh hn hc hsz ht hi hz0 hz1 hz2
    go_enter Try.func51, Try.ntmps51
    have HC : Hid (∀ (j : Nat) (u : Value), (mks L)[j]? = some u → (w.alloc (Obj.cells #[] 118)).cell? ((⟨g, 0, none⟩ : Addr).add j) = some u) := fun j u hj => (HO.out.alloc _).cells rfl j u hj
    have HW : Hid ((w.alloc (Obj.cells #[] 118)).ownsRow w.heap.size 118 2 (.slice (some ⟨w.heap.size, 0, none⟩) 0 0) 0 []) := World.ownsRow_lit w #[] 0 (Nat.le_refl _) (by unfold maxLen; omega) rfl
    have hone : ∀ u ∈ mks L, u.oneCell' = true := by
      intro u hu
      simp only [mks, List.mem_flatMap] at hu
      obtain ⟨p, _, hp⟩ := hu
      simp at hp
      rcases hp with rfl | rfl <;> rfl
    have HON := Lib.hid hone
    clear hone
    go_wp2_with (at_builtin; refine wpList_append_own _ rfl (.tmp 5) (.tmp 6) 63 rfl w.heap.size 118 i0 (.agg #[.int .u8 0, .int .i64 0]) 2 16 Try.underlying63 Hi.out Hz0.out Hz1.out Hz2.out rfl (by decide) _ 0 [] rfl HW.out ⟨g, 0, none⟩ L.length cap (mks L) rfl (mks_len L) HC.out HON.out (by unfold maxLen; omega) (by omega) (by simp) ?_; intro v' w1 hown' hgrow _)
    go_ret
    simp only [Nat.zero_add, List.nil_append] at hown'
    exact ⟨v', rfl, hown', sm_alloc_grown hgrow (fun k e => by cases e; exact Nat.le_refl _)⟩
theorem marks_c (nb : Nat) (L : List (Int × Int)) (w : World) (h : Noted nb w L) (hL : L.length < 1000000) :
    Calls Try.prog 24 #[.pointer (some ⟨nb, 0, none⟩)] w fun e w' => ∃ v', e = .returned v' ∧ w'.ownsRow w.heap.size 118 2 v' L.length (mks L) ∧ Sm (fun _ => False) w w' := by
  obtain ⟨v, h1, h2⟩ := h
  have c0 : w.cell? ⟨nb, 0, none⟩ = some (.bool true) := h1.cell 0
  have c1 : w.cell? ⟨nb, 1, none⟩ = some v := h1.cell 1
  have H := Lib.hid (clone_c v L (nb + 1) w h2 hL)
  clear h2
  go_enter Try.func24, Try.ntmps24
  go_wp2_with fail
  refine H.out.mono ?_
  rintro e w' ⟨v', rfl, h3, h4⟩
  have H3 := Lib.hid h3
  have H4 := Lib.hid h4
  clear h3 h4
  go_wp2
  go_ret
  exact ⟨_, rfl, H3.out, H4.out⟩
end Go.Proofs.Ytdedmmjmiakidaa
/-
  DERIVED: THE SHELF's CONTRACTS AT THIS DUMP, IN PLAIN WORDS (tools/lay-plain.mjs out of 'TryShelf.lean', which tools/lay-shelf.mjs wrote): THE SAME DECLARATIONS UNDER THE SAME NAMES: 'import', 'namespace', 'open', 'def', 'theorem' AND NOTHING ELSE: no command of the shelf's: FOR A HAND-IN. Each laying: the table of numbers ('.._ren') and one theorem, a field a fact of the dump's own or the kernel's comparison; each contract: ONE APPLICATION.
-/
namespace Go.Proofs
open Go.Shelf
def Try.lays129_ren : Go.Shelf.Ren := ⟨fun | 129 => 45 | n => n, fun | 53 => 23 | 3 => 3 | 4 => 4 | 46 => 169 | 5 => 5 | 9 => 9 | n => n, fun | n => n⟩
theorem Try.lays129 : Go.Proofs.Lays.n129 Try.prog Try.lays129_ren := {
  mixed := by kernel_rfl
  f129 := Try.func45.trans (congrArg some (by kernel_rfl))
  t3 := Try.underlying3
  a3 := Try.isAgg3
  z3 := Try.sizeOf3
  v3 := Try.zeroValue3
  t4 := Try.underlying4
  a4 := Try.isAgg4
  z4 := Try.sizeOf4
  v4 := Try.zeroValue4
  t5 := Try.underlying5
  a5 := Try.isAgg5
  z5 := Try.sizeOf5
  v5 := Try.zeroValue5
  t9 := Try.underlying9
  a9 := Try.isAgg9
  z9 := Try.sizeOf9
  v9 := Try.zeroValue9
  t46 := Try.underlying169
  a46 := Try.isAgg169
  z46 := Try.sizeOf169
  v46 := Try.zeroValue169
  t53 := Try.underlying23
  a53 := Try.isAgg23
  z53 := Try.sizeOf23
  v53 := Try.zeroValue23 }
/-- bits.Len64: "Len64 returns the minimum number of bits required to represent x; the result is 0 for x == 0.": IT RETURNS 'Lib.bitLen x'; the world is as it was. ('h0', 'h1': x is a uint64.) (LAID: no walk: one application.) -/
theorem Try.bits_Len64 (x : Int) (w : World) (h0 : 0 ≤ x) (h1 : x ≤ 18446744073709551615) :
    Calls Try.prog 45 #[.int .u64 x] w fun e w' => e = .returned (.int .i64 (Lib.bitLen x.toNat)) ∧ w' = w := Any.bits_Len64 Try.lays129 x w h0 h1
end Go.Proofs
/- Package tally, walked alone: the step of a gate; New; Add, Parts, Sum. -/
namespace Go.Proofs.Ytdedmmjmiakidaa
open Go.RowKit
set_option linter.unusedVariables false

def uw (m : List Nat) : Array Value := (m.map fun (x : Nat) => Value.int .u64 (x : Int)).toArray
theorem uw_get (m : List Nat) (i : Nat) (h : i < m.length) : (uw m)[i]? = some (.int .u64 (m[i] : Nat)) := by
  simp [uw, h]
theorem uw_set (m : List Nat) (i v : Nat) : (uw m).setIfInBounds i (.int .u64 (v : Int)) = uw (m.set i v) := by
  simp [uw, List.map_set]

theorem aadd (a : Addr) (x n s : Nat) (w : World) (h : w.cell? a = some (.int .u64 (x : Int))) (hz : w.frozen? a = false) (hs : (x + n) % 18446744073709551616 = s) :
    Calls Try.prog 47 #[.pointer (some a), .int .u64 (n : Int)] w fun e w' => e = .returned (.int .u64 (s : Int)) ∧ w.setCell a (.int .u64 (s : Int)) = w' := by
  have e : IntKind.u64.wrap ((x : Int) + (n : Int)) = (s : Int) := by rw [IntKind.wrap_u64]; omega
  have hl := run_call_add (P := Try.prog) Try.func70 (by kernel_rfl) (by kernel_rfl) (by kernel_rfl) .u64 (by kernel_rfl) (y := (n : Int)) (s := (s : Int)) h hz (by rw [← e]; rfl)
  clear e hs
  go_enter Try.func47, Try.ntmps47
  go_wp2
  go_ret
  exact ⟨rfl, rfl⟩

theorem tstep_nil (op wd : Int) (w : World) :
    Calls Try.prog 46 #[.nilIface, .int .u8 op, .int .i64 wd] w fun e w' => e = .returned (.tuple #[]) ∧ w = w' := by
  go_enter Try.func46, Try.ntmps46
  go_wp2
  go_end0
  exact ⟨rfl, rfl⟩

theorem tstep_note (nb : Nat) (op wd : Int) (w : World) (L : List (Int × Int)) (hL : L.length < 1000000) (h : Noted nb w L) :
    Calls Try.prog 46 #[.iface 61 (.pointer (some ⟨nb, 0, none⟩)), .int .u8 op, .int .i64 wd] w fun e w' =>
      e = .returned (.tuple #[]) ∧ Noted nb w' (L ++ [(op, wd)]) ∧ Sm (fun b => nb ≤ b) w w' := by
  have H := Lib.hid (noteStep_c nb op wd w L hL h)
  clear h
  go_enter Try.func46, Try.ntmps46
  go_wp2_with fail
  refine H.out.mono ?_
  rintro e w' ⟨rfl, h1, h2⟩
  have H2 := Lib.hid h2
  clear h2
  go_wp2
  refine bodyPost_end (results_none rfl _ _ _) rfl ?_
  exact ⟨rfl, h1, H2.out⟩

/-- What is asked of a gate beside an object whose blocks are X. -/
structure GateOk (g : Value) (B : Nat) (X : Nat → Prop) (G : World → List (Int × Int) → Prop) : Prop where
  step : ∀ (w : World) (L : List (Int × Int)) (op wd : Int), L.length < 1000000 → G w L → Calls Try.prog 46 #[g, .int .u8 op, .int .i64 wd] w fun e w' =>
    e = .returned (.tuple #[]) ∧ G w' (L ++ [(op, wd)]) ∧ Below B w w' ∧ ∀ k, X k → w'.heap[k]? = w.heap[k]?
  keep : ∀ (w w' : World) (L : List (Int × Int)), G w L → Sm X w w' → G w' L

theorem gate_nilX (B : Nat) (X : Nat → Prop) (Y : World → Prop) (hY : ∀ w w', Y w → Sm X w w' → Y w') : GateOk .nilIface B X (fun w _ => Y w) where
  step := fun w L op wd _ hg => (tstep_nil op wd w).mono fun e w' ⟨h1, h2⟩ => by
    subst h2
    exact ⟨h1, hg, Below.refl _ _, fun _ _ => rfl⟩
  keep := fun w w' _ h k => hY w w' h k

theorem gate_note (B nb : Nat) (X : Nat → Prop) (hX : ∀ k, X k → k < nb) (hB : B ≤ nb) : GateOk (.iface 61 (.pointer (some ⟨nb, 0, none⟩))) B X (fun w L => nb < w.heap.size ∧ Noted nb w L) where
  step := fun w L op wd hL hg => (tstep_note nb op wd w L hL hg.2).mono fun e w' ⟨h1, h2, h3⟩ =>
    ⟨h1, ⟨Nat.lt_of_lt_of_le hg.1 h3.size, h2⟩, h3.below (by omega) (fun k hk => by omega), fun k hk => h3.block k (by have := hX k hk; omega) (by have := hX k hk; omega)⟩
  keep := fun w w' L hg k => ⟨Nat.lt_of_lt_of_le hg.1 k.size, hg.2.sm k (fun b hb hf => by have := hX b hf; omega)⟩
end Go.Proofs.Ytdedmmjmiakidaa
/- Package tally, walked alone: New, Add, Parts, Sum; NewHist, Hist.Add, Hist.Get. -/
namespace Go.Proofs.Ytdedmmjmiakidaa
open Go.RowKit
set_option linter.unusedVariables false

/-- A tally in memory: its shards. -/
structure Tal (T A : Nat) (m : List Nat) (w : World) : Prop where
  rT : Row w T #[.slice (some ⟨A, 0, none⟩) m.length m.length] 50
  rA : Row w A (uw m) 55
  ne : T ≠ A
  pos : 0 < m.length
  le : m.length ≤ 64

theorem Tal.sm {F : Nat → Prop} {T A : Nat} {m : List Nat} {w w' : World} (h : Tal T A m w) (k : Sm F w w') (hT : ¬ F T) (hA : ¬ F A) : Tal T A m w' :=
  { h with rT := h.rT.sm k hT, rA := h.rA.sm k hA }

theorem info_au64 : (Try.prog.info? 55).map (fun i => (i.zero, i.size, i.bytes)) = some (some (.agg #[.int .u64 0]), 1, 8) := by kernel_rfl
theorem info_u64 : (Try.prog.info? 23).map (fun i => (i.zero, i.size, i.bytes)) = some (some (.int .u64 0), 1, 8) := by kernel_rfl

theorem made_one (n : Nat) (z : Value) : madeCells #[z] (n * 1) = (List.replicate n z).toArray := by
  apply Array.ext
  · simp [size_madeCells]
  · intro j h1 h2
    simp [madeCells, Nat.mod_one]

theorem make_shards (n : Nat) (hn : n ≤ 64) (w : World) :
    (Instr.makeSlice 48 (.int .i64 n) (.int .i64 n)).run Try.prog w = .ok (.slice (some ⟨w.heap.size, 0, none⟩) n n) (w.alloc (.cells (uw (List.replicate n 0)) 55)) := by
  obtain ⟨i0, hi, hz0, hz1, hz2⟩ := info_parts info_au64
  have h := run_makeSlice (P := Try.prog) w 48 55 i0 _ Try.underlying48 hi hz0 .i64 .i64 n n (by omega) (by omega) (by rw [hz1]; omega) (by rw [hz2]; omega) (by omega)
  rw [hz1] at h
  simp only [Int.toNat_natCast] at h
  have e : madeCells (Value.agg #[Value.int .u64 0]).cells (n * 1) = uw (List.replicate n 0) := by
    have := made_one n (.int .u64 0)
    simp only [Value.cells]
    rw [this]
    simp [uw]
  rw [e] at h
  exact h

theorem make_u64s (n : Nat) (hn : n ≤ 1000000) (w : World) :
    (Instr.makeSlice 38 (.int .i64 n) (.int .i64 n)).run Try.prog w = .ok (.slice (some ⟨w.heap.size, 0, none⟩) n n) (w.alloc (.cells (uw (List.replicate n 0)) 23)) := by
  obtain ⟨i0, hi, hz0, hz1, hz2⟩ := info_parts info_u64
  have h := run_makeSlice (P := Try.prog) w 38 23 i0 _ Try.underlying38 hi hz0 .i64 .i64 n n (by omega) (by omega) (by rw [hz1]; omega) (by rw [hz2]; omega) (by omega)
  rw [hz1] at h
  simp only [Int.toNat_natCast] at h
  have e : madeCells (Value.int .u64 0).cells (n * 1) = uw (List.replicate n 0) := by
    have := made_one n (.int .u64 0)
    simp only [Value.cells]
    rw [this]
    simp [uw]
  rw [e] at h
  exact h

set_option maxRecDepth 100000 in
theorem tnew_ok (n : Nat) (h0 : 0 < n) (hn : n ≤ 64) (w : World) :
    Calls Try.prog 22 #[.int .i64 n] w fun e w' => e = .returned (.tuple #[.pointer (some ⟨w.heap.size + 1, 0, none⟩), .int .i64 0]) ∧ Sm (fun _ => False) w w' ∧ Tal (w.heap.size + 1) w.heap.size (List.replicate n 0) w' := by
  have hm := make_shards n hn w
  go_enter Try.func22, Try.ntmps22
  go_wp2
  go_ret2
  refine ⟨rfl, ((Sm.refl _ _).alloc _).alloc _, ?_, ?_, by simp, by simpa using h0, by simpa using hn⟩
  · have := Row.new (w.alloc (Obj.cells (uw (List.replicate n 0)) 55)) #[.slice (some ⟨w.heap.size, 0, none⟩) n n] 50
    simpa using this
  · exact (Row.new w _ _).alloc _

set_option maxRecDepth 100000 in
theorem tnew_err (n : Int) (h : n < 1 ∨ 64 < n) (w : World) :
    Calls Try.prog 22 #[.int .i64 n] w fun e w' => e = .returned (.tuple #[.pointer none, .int .i64 2]) ∧ w = w' := by
  rcases h with h | h
  · go_enter Try.func22, Try.ntmps22
    go_wp2
    go_ret2
    exact ⟨rfl, rfl⟩
  · have h' : ¬ n < 1 := by omega
    go_enter Try.func22, Try.ntmps22
    go_wp2
    go_ret2
    exact ⟨rfl, rfl⟩

set_option maxRecDepth 100000 in
theorem tnone_c (T A : Nat) (m : List Nat) (w : World) (h : Tal T A m w) :
    Calls Try.prog 50 #[.pointer (some ⟨T, 0, none⟩)] w fun e w' => e = .returned (.bool false) ∧ w = w' := by
  have h0 : w.cell? ⟨T, 0, none⟩ = some (.slice (some ⟨A, 0, none⟩) m.length m.length) := h.rT.cell 0
  have hp := h.pos
  have hz : (((m.length : Nat) : Int) == 0) = false := by rw [beq_eq_false_iff_ne]; omega
  go_enter Try.func50, Try.ntmps50
  go_wp2
  go_ret
  exact ⟨rfl, rfl⟩

set_option maxRecDepth 100000 in
set_option maxHeartbeats 400000 in
theorem tadd_c {g : Value} {B T A : Nat} {G : World → List (Int × Int) → Prop} (hG : GateOk g B (fun k => k = T ∨ k = A) G) (hBA : B ≤ A) (m : List Nat) (i n s : Nat) (hi : i < m.length) (hs : (m[i] + n) % 18446744073709551616 = s) (w : World) (L : List (Int × Int)) (hL : L.length + 20 ≤ 1000000) (hg : G w L) (h : Tal T A m w) :
    Calls Try.prog 19 #[.pointer (some ⟨T, 0, none⟩), g, .int .i64 i, .int .u64 n] w fun e w' =>
      e = .returned (.tuple #[.int .u64 s, .int .i64 0]) ∧ G w' (L ++ [(3, (i : Int))]) ∧ Below B w w' ∧ Tal T A (m.set i s) w' := by
  have hle := h.le
  have hne := h.ne
  have h0 : w.cell? ⟨T, 0, none⟩ = some (.slice (some ⟨A, 0, none⟩) m.length m.length) := h.rT.cell 0
  have H0 := Lib.hid (tnone_c T A m w h)
  have j1 : (i : Int) < (m.length : Int) := by omega
  have HS := Lib.hid hs
  clear hs
  go_enter Try.func19, Try.ntmps19
  go_wp2_with fail
  refine H0.out.mono ?_
  rintro e w' ⟨rfl, rfl⟩
  go_wp2_with fail
  refine (hG.step _ _ _ _ (by omega) hg).mono ?_
  rintro e w1 ⟨rfl, hg1, hb1, hk1⟩
  have hr1 := Row.of_heap h.rT (hk1 T (.inl rfl))
  have ha1 := Row.of_heap h.rA (hk1 A (.inr rfl))
  clear hk1 h0
  have h1 : w1.cell? ⟨T, 0, none⟩ = some (.slice (some ⟨A, 0, none⟩) m.length m.length) := hr1.cell 0
  go_wp2_with fail
  refine (aadd ⟨A, i, none⟩ m[i] n s _ ((ha1.cell i).trans (uw_get m i hi)) (ha1.free i) HS.out).mono ?_
  rintro e w2 ⟨rfl, hw2⟩
  have HW2 := Lib.hid hw2
  clear hw2 h1
  go_wp2
  go_ret2
  rw [← HW2.out]
  refine ⟨rfl, hG.keep _ _ _ hg1 ((Sm.refl _ _).setCell (.inr rfl) _), hb1.setCell hBA _, ?_, ?_, hne, by simpa using h.pos, by simpa using hle⟩
  · simp only [List.length_set]
    exact hr1.set_ne (fun e => hne e.symm) _
  · rw [← uw_set]
    exact ha1.set i _
end Go.Proofs.Ytdedmmjmiakidaa
/- Package tally, walked alone: Parts and Sum of a tally without a gate. -/
namespace Go.Proofs.Ytdedmmjmiakidaa
open Go.RowKit
set_option linter.unusedVariables false

/-- What the slice out holds after k rounds. -/
def upto (m : List Nat) (k : Nat) : List Nat := m.take k ++ List.replicate (m.length - k) 0
theorem upto_len (m : List Nat) (k : Nat) (h : k ≤ m.length) : (upto m k).length = m.length := by
  simp [upto]; omega
theorem upto_all (m : List Nat) : upto m m.length = m := by simp [upto]
theorem upto_zero (m : List Nat) : upto m 0 = List.replicate m.length 0 := by simp [upto]
theorem upto_set (m : List Nat) (k : Nat) (h : k < m.length) : (upto m k).set k m[k] = upto m (k + 1) := by
  apply List.ext_getElem
  · simp [upto]; omega
  · intro i h1 h2
    simp only [upto, List.getElem_set, List.getElem_append, List.length_take, List.getElem_take, List.getElem_replicate]
    by_cases e : k = i
    · subst e
      have : k < min (k + 1) m.length := by omega
      rw [if_pos rfl, dif_pos this]
    · rw [if_neg e]
      by_cases e2 : i < min k m.length
      · have : i < min (k + 1) m.length := by omega
        rw [dif_pos e2, dif_pos this]
      · have : ¬ i < min (k + 1) m.length := by omega
        rw [dif_neg e2, dif_neg this]

def wsum (m : List Nat) : Nat := m.foldl (fun s x => (s + x) % 18446744073709551616) 0
theorem wsum_succ (m : List Nat) (k : Nat) (h : k < m.length) : wsum (m.take (k + 1)) = (wsum (m.take k) + m[k]) % 18446744073709551616 := by
  simp only [wsum, List.take_add_one, List.foldl_append]
  simp [h]

set_option maxRecDepth 100000 in
set_option maxHeartbeats 800000 in
theorem tparts_c (T A : Nat) (m : List Nat) (w : World) (h : Tal T A m w) :
    Calls Try.prog 21 #[.pointer (some ⟨T, 0, none⟩), .nilIface] w fun e w' =>
      ∃ O, e = .returned (.tuple #[.slice (some ⟨O, 0, none⟩) m.length m.length, .int .i64 0]) ∧ Row w' O (uw m) 23 ∧ Sm (fun _ => False) w w' ∧ w.heap.size ≤ O := by
  have hle := h.le
  have h0 : w.cell? ⟨T, 0, none⟩ = some (.slice (some ⟨A, 0, none⟩) m.length m.length) := h.rT.cell 0
  have H0 := Lib.hid (tnone_c T A m w h)
  have hm := make_u64s m.length (by omega) w
  have H := Lib.hid h
  clear h
  go_enter Try.func21, Try.ntmps21
  go_wp2_with fail
  refine H0.out.mono ?_
  rintro e w' ⟨rfl, rfl⟩
  have hn0 : Row (w.alloc (.cells (uw (List.replicate m.length 0)) 23 (0, 0))) w.heap.size (uw (List.replicate m.length 0)) 23 := Row.new w _ _
  obtain ⟨w1, hw1⟩ : ∃ w1 : World, w1 = w.alloc (.cells (uw (List.replicate m.length 0)) 23 (0, 0)) := ⟨_, rfl⟩
  obtain ⟨O, hO⟩ : ∃ O : Nat, O = w.heap.size := ⟨_, rfl⟩
  have hs1 : Sm (fun _ => False) w w1 := by rw [hw1]; exact (Sm.refl _ _).alloc _
  rw [← hw1, ← hO] at hm
  rw [← hw1, ← hO] at hn0
  have HO := Lib.hid hO
  have HN0 := Lib.hid hn0
  have HS1 := Lib.hid hs1
  have h1 : w1.cell? ⟨T, 0, none⟩ = some (.slice (some ⟨A, 0, none⟩) m.length m.length) := (H.out.sm hs1 (fun h => h) (fun h => h)).rT.cell 0
  clear hw1 hO hn0 hs1
  go_wp2
  go_loopw [7, 21] (fun s7 s21 wr => ∃ k : Nat, k ≤ m.length ∧ s21 = .int .i64 k ∧ Hid (Row wr O (uw (upto m k)) 23) ∧ Hid (Sm (fun _ => False) w wr)) (fun s7 s21 _ => m.length - (intOf s21).toNat)
  case atStart => exact ⟨0, by omega, rfl, Lib.hid (by rw [upto_zero]; exact HN0.out), HS1⟩
  case round =>
    obtain ⟨k, hk, rfl, hR, hS⟩ := hrel
    have ht : Tal T A m wr := H.out.sm hS.out (fun h => h) (fun h => h)
    by_cases hlt : k < m.length
    · have i1 : (k : Int) < (m.length : Int) := by omega
      have hp : wrap64 ((k : Int) + 1) = ((k + 1 : Nat) : Int) := by unfold wrap64; omega
      have HP := Lib.hid hp
      clear hp
      have hc : wr.cell? ⟨T, 0, none⟩ = some (.slice (some ⟨A, 0, none⟩) m.length m.length) := ht.rT.cell 0
      have HT := Lib.hid ht
      clear ht
      go_wp2_with fail
      refine (tstep_nil _ _ _).mono ?_
      rintro e w' ⟨rfl, rfl⟩
      go_wp2_with fail
      refine (aload ⟨A, k, none⟩ m[k] _ ((HT.out.rA.cell k).trans (uw_get m k hlt))).mono ?_
      rintro e w' ⟨rfl, rfl⟩
      have hg : wr.cell? ⟨O, k, none⟩ = some (.int .u64 ((upto m k)[k]'(by rw [upto_len _ _ hk]; exact hlt) : Nat)) := (hR.out.cell k).trans (uw_get _ k (by rw [upto_len _ _ hk]; exact hlt))
      have hf : wr.frozen? ⟨O, k, none⟩ = false := hR.out.free k
      have hnx : Hid (Row (wr.setCell ⟨O, k, none⟩ (.int .u64 (m[k] : Nat))) O (uw (upto m (k + 1))) 23) := by
        apply Lib.hid
        rw [← upto_set m k hlt, ← uw_set]
        exact hR.out.set _ _
      have hsx : Hid (Sm (fun _ => False) w (wr.setCell ⟨O, k, none⟩ (.int .u64 (m[k] : Nat)))) := Lib.hid (hS.out.setNew (by rw [← HO.out]; exact Nat.le_refl _) _)
      go_wp2
      go_roundw
      case rel => exact ⟨k + 1, by omega, by first | rw [HP.out] | go_num, hnx, hsx⟩
      case measure => (try rw [HP.out]); simp only [intOf]; omega
    · have hkk : k = m.length := by omega
      subst hkk
      have i1 : ¬ (m.length : Int) < (m.length : Int) := by omega
      clear ht
      go_wp2
      go_ret2
      refine ⟨O, rfl, ?_, hS.out, by rw [← HO.out]; exact Nat.le_refl _⟩
      have := hR.out
      rw [upto_all] at this
      exact this

set_option maxRecDepth 100000 in
set_option maxHeartbeats 800000 in
theorem tsum_c (T A : Nat) (m : List Nat) (w : World) (h : Tal T A m w) :
    Calls Try.prog 20 #[.pointer (some ⟨T, 0, none⟩), .nilIface] w fun e w' =>
      e = .returned (.tuple #[.int .u64 (wsum m : Nat), .int .i64 0]) ∧ Sm (fun _ => False) w w' := by
  have hle := h.le
  have H := Lib.hid (tparts_c T A m w h)
  clear h
  go_enter Try.func20, Try.ntmps20
  go_wp2_with fail
  refine H.out.mono ?_
  rintro e w1 ⟨O, rfl, hr, hs, -⟩
  have HR := Lib.hid hr
  have HS := Lib.hid hs
  clear hr hs
  go_wp2
  go_loop [8, 10, 19] (fun s8 s10 s19 => ∃ k : Nat, k ≤ m.length ∧ s19 = .int .i64 k ∧ s8 = .int .u64 (wsum (m.take k) : Nat)) (fun s8 s10 s19 => m.length - (intOf s19).toNat)
  case atStart => exact ⟨0, by omega, rfl, rfl⟩
  case round =>
    obtain ⟨k, hk, rfl, rfl⟩ := hrel
    by_cases hlt : k < m.length
    · have i1 : (k : Int) < (m.length : Int) := by omega
      have hp : wrap64 ((k : Int) + 1) = ((k + 1 : Nat) : Int) := by unfold wrap64; omega
      have HP := Lib.hid hp
      clear hp
      have hc : w1.cell? ⟨O, k, none⟩ = some (.int .u64 (m[k] : Nat)) := (HR.out.cell k).trans (uw_get m k hlt)
      have hw : IntKind.u64.wrap ((wsum (m.take k) : Nat) + (m[k] : Nat) : Int) = ((wsum (m.take (k + 1)) : Nat) : Int) := by
        rw [wsum_succ m k hlt, IntKind.wrap_u64]; omega
      go_wp2
      go_round
      case rel => exact ⟨k + 1, by omega, by first | rw [HP.out] | go_num, rfl⟩
      case measure => (try rw [HP.out]); simp only [intOf]; omega
    · have hkk : k = m.length := by omega
      subst hkk
      have i1 : ¬ (m.length : Int) < (m.length : Int) := by omega
      go_wp2
      go_ret2
      refine ⟨?_, HS.out⟩
      simp
end Go.Proofs.Ytdedmmjmiakidaa
/- Package tally, walked alone: NewHist, Hist.Add, Hist.Get. -/
namespace Go.Proofs.Ytdedmmjmiakidaa
open Go.RowKit
set_option linter.unusedVariables false

/-- A histogram's block: made, and its 67 words. -/
def hst (m : List Nat) : Array Value := #[.bool true] ++ uw m
theorem hst_get (m : List Nat) (i : Nat) (h : i < m.length) : (hst m)[1 + i]? = some (.int .u64 (m[i] : Nat)) := by
  have := uw_get m i h
  rw [hst, Array.getElem?_append_right (by simp)]
  simpa using this
theorem hst_made (m : List Nat) : (hst m)[0]? = some (.bool true) := by
  rw [hst, Array.getElem?_append_left (by simp)]
  rfl
theorem hst_set (m : List Nat) (i v : Nat) : (hst m).setIfInBounds (1 + i) (.int .u64 (v : Int)) = hst (m.set i v) := by
  simp [hst, ← uw_set]

structure His (H : Nat) (m : List Nat) (w : World) : Prop where
  r : Row w H (hst m) 58
  len : m.length = 67

theorem His.sm {F : Nat → Prop} {H : Nat} {m : List Nat} {w w' : World} (h : His H m w) (k : Sm F w w') (hf : ¬ F H) : His H m w' := ⟨h.r.sm k hf, h.len⟩
theorem His.of_heap {H : Nat} {m : List Nat} {w w' : World} (h : His H m w) (e : w'.heap[H]? = w.heap[H]?) : His H m w' := ⟨h.r.of_heap e, h.len⟩
theorem His.setw {H : Nat} {m : List Nat} {w : World} (h : His H m w) (i v : Nat) : His H (m.set i v) (w.setCell ⟨H, 1 + i, none⟩ (.int .u64 (v : Int))) :=
  ⟨by rw [← hst_set]; exact h.r.set _ _, by simpa using h.len⟩
theorem His.at {H : Nat} {m : List Nat} {w : World} (h : His H m w) (i : Nat) (hi : i < m.length) : w.cell? ⟨H, 1 + i, none⟩ = some (.int .u64 (m[i] : Nat)) := (h.r.cell _).trans (hst_get m i hi)

theorem zero_hist : Try.zeroCells58.setIfInBounds 0 (.bool true) = hst (List.replicate 67 0) := by kernel_rfl

theorem newHist_c (w : World) : Calls Try.prog 16 #[] w fun e w' =>
    e = .returned (.pointer (some ⟨w.heap.size, 0, none⟩)) ∧ Sm (fun _ => False) w w' ∧ His w.heap.size (List.replicate 67 0) w' := by
  go_enter Try.func16, Try.ntmps16
  go_wp2
  go_ret
  refine ⟨rfl, (Sm.refl _ _).alloc _, ?_, by simp⟩
  rw [← zero_hist]
  exact Row.new w _ _

theorem bitLen_zero : Lib.bitLen 0 = 0 := by decide
theorem bitLen_le : ∀ (j v : Nat), v < 2 ^ j → j ≤ 64 → Lib.bitLen v ≤ j
  | 0, v, h, _ => by
    have : v = 0 := by simpa using h
    subst this
    simp [bitLen_zero]
  | j + 1, v, h, hj => by
    by_cases h0 : v = 0
    · subst h0; simp [bitLen_zero]
    · have hv : v < 2 ^ 64 := Nat.lt_of_lt_of_le h (Nat.pow_le_pow_right (by decide) hj)
      rw [Lib.bitLen_half v h0 hv]
      have := bitLen_le j (v / 2) (by rw [Nat.pow_succ] at h; omega) (by omega)
      omega

/-- What a number that comes makes of the 67 words. -/
def come (m : List Nat) (v : Nat) : List Nat :=
  let k := Lib.bitLen v
  let m1 := m.set k ((m.getD k 0 + 1) % 18446744073709551616)
  let m2 := m1.set 65 ((m.getD 65 0 + v) % 18446744073709551616)
  if v ≤ m.getD 66 0 then m2 else m2.set 66 v
theorem come_len (m : List Nat) (v : Nat) : (come m v).length = m.length := by
  unfold come; split <;> simp

set_option maxRecDepth 100000 in
set_option maxHeartbeats 800000 in
theorem hadd_c {g : Value} {B H : Nat} {G : World → List (Int × Int) → Prop} (hG : GateOk g B (fun k => k = H) G) (hBH : B ≤ H) (m : List Nat) (v : Nat) (hv : v < 18446744073709551616) (w : World) (L : List (Int × Int)) (hL : L.length + 20 ≤ 1000000) (hg : G w L) (h : His H m w) :
    Calls Try.prog 17 #[.pointer (some ⟨H, 0, none⟩), g, .int .u64 v] w fun e w' =>
      e = .returned (.int .i64 0) ∧ G w' (L ++ ([(3, (Lib.bitLen v : Int)), (3, 65), (1, 66)] ++ (if v ≤ m.getD 66 0 then [] else [(5, 66)]))) ∧ Below B w w' ∧ His H (come m v) w' := by
  obtain ⟨k, hk⟩ : ∃ k, k = Lib.bitLen v := ⟨_, rfl⟩
  have hk64 : k ≤ 64 := by rw [hk]; exact bitLen_le 64 v hv (by decide)
  have hlen := h.len
  have hm : w.cell? ⟨H, 0, none⟩ = some (.bool true) := (h.r.cell 0).trans (hst_made m)
  obtain ⟨x0, hx0⟩ : ∃ x, x = m.getD k 0 := ⟨_, rfl⟩
  obtain ⟨x5, hx5⟩ : ∃ x, x = m.getD 65 0 := ⟨_, rfl⟩
  obtain ⟨x6, hx6⟩ : ∃ x, x = m.getD 66 0 := ⟨_, rfl⟩
  obtain ⟨s0, hs0⟩ : ∃ s, s = (x0 + 1) % 18446744073709551616 := ⟨_, rfl⟩
  obtain ⟨s5, hs5⟩ : ∃ s, s = (x5 + v) % 18446744073709551616 := ⟨_, rfl⟩
  have e0 : ∀ hh : k < m.length, m[k] = x0 := fun hh => by rw [hx0]; simp [hh]
  have e5 : ∀ hh : 65 < (m.set k s0).length, (m.set k s0)[65] = x5 := fun hh => by rw [hx5, List.getElem_set_ne (by omega)]; simp [hlen]
  have e6 : ∀ hh : 66 < ((m.set k s0).set 65 s5).length, ((m.set k s0).set 65 s5)[66] = x6 := fun hh => by rw [hx6, List.getElem_set_ne (by omega), List.getElem_set_ne (by omega)]; simp [hlen]
  have hres : come m v = if v ≤ x6 then (m.set k s0).set 65 s5 else ((m.set k s0).set 65 s5).set 66 v := by
    unfold come
    simp only [← hk, ← hx0, ← hx5, ← hx6, ← hs0, ← hs5]
  obtain ⟨M, hM⟩ : ∃ M, M = come m v := ⟨_, rfl⟩
  obtain ⟨LL, hLL⟩ : ∃ LL, LL = L ++ ([(3, (Lib.bitLen v : Int)), (3, 65), (1, 66)] ++ (if v ≤ m.getD 66 0 then [] else [(5, 66)])) := ⟨_, rfl⟩
  rw [← hM, ← hLL]
  rw [← hk, ← hx6] at hLL
  rw [hres] at hM
  have HM := Lib.hid hM
  have HLL := Lib.hid hLL
  have HE0 := Lib.hid e0
  have HE5 := Lib.hid e5
  have HE6 := Lib.hid e6
  have HS0 := Lib.hid hs0
  have HS5 := Lib.hid hs5
  have HB := Lib.hid (Try.bits_Len64 v w (by omega) (by omega))
  have HK := Lib.hid hk
  clear e0 e5 e6 hs0 hs5 hres hx0 hx5 hx6 hk hM hLL
  go_enter Try.func17, Try.ntmps17
  go_wp2_with fail
  refine HB.out.mono ?_
  rintro e w' ⟨rfl, rfl⟩
  rw [show Lib.bitLen (v : Int).toNat = k from HK.out.symm]
  go_wp2_with fail
  refine (hG.step _ _ _ _ (by omega) hg).mono ?_
  rintro e w1 ⟨rfl, hg1, hb1, hk1⟩
  have h1 := h.of_heap (hk1 H rfl)
  clear hk1 h hm
  have i0 : (0 : Int) ≤ (k : Int) := by omega
  have i1 : (k : Int) < 67 := by omega
  have hkl : k < m.length := by omega
  have c1 := h1.at k hkl
  have f1 := h1.r.free (1 + k)
  have HC1 := Lib.hid c1
  clear c1
  go_wp2_with fail
  refine (aadd ⟨H, 1 + k, none⟩ (m[k]'hkl) 1 s0 _ HC1.out f1 (by rw [HE0.out hkl]; exact HS0.out.symm)).mono ?_
  rintro e w2 ⟨rfl, hw2⟩
  have h2 := h1.setw k s0
  rw [hw2] at h2
  have hg2 := hG.keep _ w2 _ hg1 (by rw [← hw2]; exact (Sm.refl (fun k => k = H) _).setCell (show (fun k => k = H) H from rfl) _)
  have hb2 := hb1.setCell (p := ⟨H, 1 + k, none⟩) hBH (.int .u64 (s0 : Int))
  rw [hw2] at hb2
  clear hw2 hb1 hg1 f1 h1 HC1
  go_wp2_with fail
  refine (hG.step _ _ _ _ (by (try simp only [List.length_append, List.length_cons, List.length_nil]); omega) hg2).mono ?_
  rintro e w3 ⟨rfl, hg3, hb3, hk3⟩
  have h3 := h2.of_heap (hk3 H rfl)
  clear hk3 h2
  have l5 : 65 < (m.set k s0).length := by simp; omega
  have HC1 := Lib.hid (h3.at 65 l5)
  have f1 := h3.r.free (1 + 65)
  go_wp2_with fail
  refine (aadd ⟨H, 1 + 65, none⟩ ((m.set k s0)[65]'l5) v s5 _ HC1.out f1 (by rw [HE5.out l5]; exact HS5.out.symm)).mono ?_
  rintro e w4 ⟨rfl, hw4⟩
  have h4 := h3.setw 65 s5
  rw [hw4] at h4
  have hg4 := hG.keep _ w4 _ hg3 (by rw [← hw4]; exact (Sm.refl (fun k => k = H) _).setCell (show (fun k => k = H) H from rfl) _)
  have hb4 := (hb2.trans hb3).setCell (p := ⟨H, 1 + 65, none⟩) hBH (.int .u64 (s5 : Int))
  rw [hw4] at hb4
  clear hw4 hb2 hb3 hg3 f1 h3 HC1
  go_wp2
  refine wp_loop_rounds 1 ?_
  rw [rounds_succ]
  go_wp2_with fail
  refine (hG.step _ _ _ _ (by (try simp only [List.length_append, List.length_cons, List.length_nil]); omega) hg4).mono ?_
  rintro e w5 ⟨rfl, hg5, hb5, hk5⟩
  have h5 := h4.of_heap (hk5 H rfl)
  clear hk5 h4
  have l6 : 66 < ((m.set k s0).set 65 s5).length := by simp; omega
  have c6 := h5.at 66 l6
  rw [HE6.out l6] at c6
  have f6 := h5.r.free (1 + 66)
  go_wp2_with fail
  refine (aload ⟨H, 1 + 66, none⟩ x6 _ c6).mono ?_
  rintro e w6 ⟨rfl, rfl⟩
  have HF6 := Lib.hid f6
  clear f6
  by_cases hvx : v ≤ x6
  · have hvi : (v : Int) ≤ (x6 : Int) := by omega
    go_wp2
    go_ret
    refine ⟨rfl, ?_, hb4.trans hb5, ?_⟩
    · rw [HLL.out, if_pos hvx]
      simpa using hg5
    · rw [HM.out, if_pos hvx]
      exact h5
  · have hvi : ¬ (v : Int) ≤ (x6 : Int) := by omega
    clear c6
    go_wp2_with fail
    refine (hG.step _ _ _ _ (by (try simp only [List.length_append, List.length_cons, List.length_nil]); omega) hg5).mono ?_
    rintro e w7 ⟨rfl, hg7, hb7, hk7⟩
    have h7 := h5.of_heap (hk7 H rfl)
    clear hk7 h5
    have c7 := h7.at 66 l6
    rw [HE6.out l6] at c7
    have HC7 := Lib.hid c7
    clear c7
    go_wp2_with fail
    refine (acas_hit ⟨H, 1 + 66, none⟩ x6 v _ HC7.out (h7.r.free _)).mono ?_
    rintro e w8 ⟨rfl, hw8⟩
    have h8 := h7.setw 66 v
    rw [hw8] at h8
    have hg8 := hG.keep _ w8 _ hg7 (by rw [← hw8]; exact (Sm.refl (fun k => k = H) _).setCell (show (fun k => k = H) H from rfl) _)
    have hb8 := ((hb4.trans hb5).trans hb7).setCell (p := ⟨H, 1 + 66, none⟩) hBH (.int .u64 (v : Int))
    rw [hw8] at hb8
    clear hw8
    go_wp2
    go_ret
    refine ⟨rfl, ?_, hb8, ?_⟩
    · rw [HLL.out, if_neg hvx]
      simpa using hg8
    · rw [HM.out, if_neg hvx]
      exact h8
end Go.Proofs.Ytdedmmjmiakidaa
/- Package tally, walked alone: Hist.Get without a gate. -/
namespace Go.Proofs.Ytdedmmjmiakidaa
open Go.RowKit
set_option linter.unusedVariables false

theorem zero_u67 : Try.zeroCells125 = uw (List.replicate 67 0) := by kernel_rfl
theorem zero_ah : Try.zeroCells26 = uw (List.replicate 67 0) := by kernel_rfl

theorem uw_one (l : List Nat) : (uw l).all (·.oneCell') = true := by
  simp [uw, Value.oneCell']
theorem uw_size (l : List Nat) : (uw l).size = l.length := by simp [uw]

theorem loadVar_u67 (w : World) (b T : Nat) (m : List Nat) (hlen : m.length = 67) (h : Row w b (uw m) T) : (loadVar 26 ⟨b, 0, none⟩).run Try.prog w = .ok (.agg (uw m)) w :=
  run_loadVar_row w b T 26 (uw m) (0, 0) _ h Try.underlying26 rfl (by rw [uw_size, hlen]; kernel_rfl)
theorem wpList_load_u67 {ops : Array Oper} {rest : List Oper} {o : Oper} {a : Act} {w : World} {Q : Exit → Act → World → Prop} (hgd : o.guard = none) (x : Operand) (ho : o.op = .load 26 x)
    (b T : Nat) (hx : a.eval x = .pointer (some ⟨b, 0, none⟩)) (m : List Nat) (hlen : m.length = 67) (hr : Row w b (uw m) T) (h : wpList Try.prog ops Q rest (a.put o.dst (.agg (uw m))) w) : wpList Try.prog ops Q (o :: rest) a w :=
  wpList_load_row hgd 26 x ho b hx T (uw m) (0, 0) _ hr Try.underlying26 rfl (by rw [uw_size, hlen]; kernel_rfl) h
theorem wpList_store_u67 {ops : Array Oper} {rest : List Oper} {o : Oper} {a : Act} {w : World} {Q : Exit → Act → World → Prop} (hgd : o.guard = none) (x y : Operand) (ho : o.op = .store 26 x y)
    (b T : Nat) (hx : a.eval x = .pointer (some ⟨b, 0, none⟩)) (m m' : List Nat) (hy : a.eval y = .agg (uw m')) (hlen : m.length = 67) (hlen' : m'.length = 67) (hr : Row w b (uw m) T) (h : wpList Try.prog ops Q rest (a.put o.dst undef) (w.setRow b (uw m'))) : wpList Try.prog ops Q (o :: rest) a w :=
  wpList_plain hgd fun _ hK => wp_store_row 26 x y ho b (uw m') hx hy T (uw m) hr (by rw [uw_size, hlen']; kernel_rfl) (by simp [uw_size, hlen, hlen']) (uw_one m') (hK _ _ h)
theorem results_u67 {fn : Func} {p q : Tmp} (h : fn.results = #[.cell p 26, .tmp q]) (tmps : Array Value) (w : World) (b T : Nat) (m : List Nat) (hlen : m.length = 67) (hp : tmps.getD p undef = .pointer (some ⟨b, 0, none⟩)) (hr : Row w b (uw m) T) :
    (results fn tmps).run Try.prog w = .ok (.tuple #[.agg (uw m), tmps.getD q undef]) w := by
  have hp' : tmps[p]?.getD undef = .pointer (some ⟨b, 0, none⟩) := by simpa using hp
  simp [results, h, hp', asAddr, loadVar_u67 w b T m hlen hr]
theorem Row.setRow {w : World} {b : Nat} {c c' : Array Value} {T : TypeId} (h : Row w b c T) : Row (w.setRow b c') b c' T := setRow_heap w b c c' T (0, 0) h
theorem uw_splice (m a : List Nat) (hlen : m.length = 67) : splice (uw (((List.replicate 67 0).set 65 (m.getD 65 0)).set 66 (m.getD 66 0))).toList 0 (uw (m.take 65)).toList = (uw m).toList := by
  have h1 : (((List.replicate 67 0).set 65 (m.getD 65 0)).set 66 (m.getD 66 0)).drop 65 = m.drop 65 := by
    apply List.ext_getElem
    · simp [hlen]
    · intro i h1 h2
      simp [hlen] at h2
      simp only [List.getElem_drop, List.getElem_set, List.getElem_replicate, List.getD_eq_getElem?_getD]
      rcases (by omega : i = 0 ∨ i = 1) with rfl | rfl <;> simp [hlen]
  have h2 : (uw (m.take 65)).toList.length = 65 := by simp [uw_size, hlen]
  simp only [splice, List.take_zero, List.nil_append, Nat.zero_add, h2]
  simp only [uw]
  rw [← List.map_drop, h1, ← List.map_append, List.take_append_drop]

set_option maxRecDepth 100000 in
set_option maxHeartbeats 800000 in
theorem hget_c (H : Nat) (m : List Nat) (w : World) (h : His H m w) :
    Calls Try.prog 18 #[.pointer (some ⟨H, 0, none⟩), .nilIface] w fun e w' =>
      e = .returned (.tuple #[.agg (uw m), .int .i64 0]) ∧ Sm (fun _ => False) w w' := by
  have hlen := h.len
  have hm1 : ∀ o, (w.alloc o).cell? ⟨H, 0, none⟩ = some (.bool true) := fun o => ((h.r.alloc o).cell 0).trans (hst_made m)
  go_enter Try.func18, Try.ntmps18
  go_wp2
  clear hm1
  have q1 : Row ((w.alloc (.cells Try.zeroCells26 26)).alloc (.cells Try.zeroCells125 125)) w.heap.size (uw (List.replicate 67 0)) 26 := by
    rw [zero_ah]; exact (Row.new w _ _).alloc _
  have q2 : Row ((w.alloc (.cells Try.zeroCells26 26)).alloc (.cells Try.zeroCells125 125)) (w.heap.size + 1) (uw (List.replicate 67 0)) 125 := by
    rw [zero_u67]
    simpa using Row.new (w.alloc (.cells Try.zeroCells26 26)) (uw (List.replicate 67 0)) 125
  have q3 : Sm (fun _ => False) w ((w.alloc (.cells Try.zeroCells26 26)).alloc (.cells Try.zeroCells125 125)) := ((Sm.refl _ _).alloc _).alloc _
  obtain ⟨R, hR⟩ : ∃ R, R = w.heap.size := ⟨_, rfl⟩
  obtain ⟨w1, hw1⟩ : ∃ w1, w1 = ((w.alloc (.cells Try.zeroCells26 26)).alloc (.cells Try.zeroCells125 125)) := ⟨_, rfl⟩
  rw [← hw1] at q1 q2 q3
  rw [← hw1]
  simp only [← hR] at q1 q2 q3 ⊢
  have Q1 := Lib.hid q1
  have Q2 := Lib.hid q2
  have Q3 := Lib.hid q3
  have HR := Lib.hid hR
  have HH := Lib.hid h
  clear q1 q2 q3 hw1 hR h
  go_loopw [8, 23] (fun s8 s23 wr => ∃ k : Nat, k ≤ 67 ∧ s23 = .int .i64 k ∧ Hid (Row wr (R + 1) (uw (upto m k)) 125) ∧ Hid (Row wr R (uw (List.replicate 67 0)) 26) ∧ Hid (Sm (fun _ => False) w wr)) (fun s8 s23 _ => 67 - (intOf s23).toNat)
  case atStart => exact ⟨0, by omega, rfl, Lib.hid (by rw [upto_zero, hlen]; exact Q2.out), Q1, Q3⟩
  case round =>
    obtain ⟨k, hk, rfl, hA, hO, hS⟩ := hrel
    have ht : His H m wr := HH.out.sm hS.out (fun h => h)
    by_cases hlt : k < 67
    · have i1 : (k : Int) < 67 := by omega
      have hkl : k < m.length := by omega
      have hp : wrap64 ((k : Int) + 1) = ((k + 1 : Nat) : Int) := by unfold wrap64; omega
      have HP := Lib.hid hp
      clear hp
      have hlu : k < (upto m k).length := by rw [upto_len _ _ (by omega)]; exact hkl
      go_wp2_with fail
      refine (tstep_nil _ _ _).mono ?_
      rintro e w' ⟨rfl, rfl⟩
      go_wp2_with fail
      refine (aload ⟨H, 1 + k, none⟩ (m[k]'hkl) _ (ht.at k hkl)).mono ?_
      rintro e w' ⟨rfl, rfl⟩
      have hg : wr.cell? ⟨R + 1, k, none⟩ = some (.int .u64 ((upto m k)[k]'hlu : Nat)) := (hA.out.cell k).trans (uw_get _ k hlu)
      have hf : wr.frozen? ⟨R + 1, k, none⟩ = false := hA.out.free k
      have hnx : Hid (Row (wr.setCell ⟨R + 1, k, none⟩ (.int .u64 (m[k]'hkl : Nat))) (R + 1) (uw (upto m (k + 1))) 125) := by
        apply Lib.hid
        rw [← upto_set m k hkl, ← uw_set]
        exact hA.out.set _ _
      have hox : Hid (Row (wr.setCell ⟨R + 1, k, none⟩ (.int .u64 (m[k]'hkl : Nat))) R (uw (List.replicate 67 0)) 26) := Lib.hid (hO.out.set_ne (by simp) _)
      have hsx : Hid (Sm (fun _ => False) w (wr.setCell ⟨R + 1, k, none⟩ (.int .u64 (m[k]'hkl : Nat)))) := Lib.hid (hS.out.setNew (by rw [← HR.out]; simp) _)
      go_wp2
      go_roundw
      case rel => exact ⟨k + 1, by omega, by first | rw [HP.out] | go_num, hnx, hox, hsx⟩
      case measure => (try rw [HP.out]); simp only [intOf]; omega
    · have hkk : k = 67 := by omega
      subst hkk
      have hA' := hA.out
      rw [← hlen, upto_all] at hA'
      obtain ⟨x5, hx5⟩ : ∃ x, x = m.getD 65 0 := ⟨_, rfl⟩
      obtain ⟨x6, hx6⟩ : ∃ x, x = m.getD 66 0 := ⟨_, rfl⟩
      have c5 : wr.cell? ⟨R + 1, 65, none⟩ = some (.int .u64 (x5 : Int)) := (hA'.cell 65).trans ((uw_get m 65 (by omega)).trans (by rw [hx5]; simp [hlen]))
      have c6 : wr.cell? ⟨R + 1, 66, none⟩ = some (.int .u64 (x6 : Int)) := (hA'.cell 66).trans ((uw_get m 66 (by omega)).trans (by rw [hx6]; simp [hlen]))
      have HX5 := Lib.hid hx5
      have HX6 := Lib.hid hx6
      clear ht hx5 hx6
      have hW : (Try.zeroCells26.setIfInBounds 65 (.int .u64 (x5 : Int))).setIfInBounds 66 (.int .u64 (x6 : Int)) = uw (((List.replicate 67 0).set 65 x5).set 66 x6) := by rw [zero_ah, uw_set, uw_set]
      have hst := run_storeCells_new (P := Try.prog) wr 26 Try.zeroCells26 ((Try.zeroCells26.setIfInBounds 65 (.int .u64 (x5 : Int))).setIfInBounds 66 (.int .u64 (x6 : Int))) (by kernel_rfl) (by simp) (by rw [hW]; exact uw_one _)
      simp only [Array.toList_setIfInBounds] at hst
      have HW := Lib.hid hW
      have HA := Lib.hid hA'
      clear hW hA'
      go_wp2
      rw [HW.out]
      obtain ⟨Z, hZ⟩ : ∃ Z, Z = ((List.replicate 67 0).set 65 x5).set 66 x6 := ⟨_, rfl⟩
      rw [← hZ]
      have hzl : Z.length = 67 := by rw [hZ]; simp
      have HZ := Lib.hid hZ
      clear hZ
      obtain ⟨O, hO1⟩ : ∃ O, O = wr.heap.size := ⟨_, rfl⟩
      obtain ⟨w3, hw3⟩ : ∃ w3, w3 = wr.alloc (.cells (uw Z) 26) := ⟨_, rfl⟩
      have r1 := Row.new wr (uw Z) 26
      have r2 := HA.out.alloc (.cells (uw Z) 26)
      have r3 := hO.out.alloc (.cells (uw Z) 26)
      have r4 := hS.out.alloc (.cells (uw Z) 26)
      have r0 := HA.out.lt
      rw [← hw3] at r1 r2 r3 r4 ⊢
      simp only [← hO1] at r0 r1 r2 r3 r4 ⊢
      have R1 := Lib.hid r1
      have R2 := Lib.hid r2
      have R3 := Lib.hid r3
      have R4 := Lib.hid r4
      clear r1 r2 r3 r4 hst c5 c6 hw3 hO1 hA hO hS HW
      have hO2 : R + 1 ≤ O := by omega
      obtain ⟨cs, hcs⟩ : ∃ cs, cs = (uw (m.take 65)).toList := ⟨_, rfl⟩
      obtain ⟨cur, hcur⟩ : ∃ cur, cur = (uw Z).toList := ⟨_, rfl⟩
      have hcl : cs.length = 65 := by rw [hcs]; simp [uw_size, hlen]
      have hul : cur.length = 67 := by rw [hcur]; simp [uw_size, hzl]
      have hsrc : ∀ j v, cs[j]? = some v → w3.drew.cell? ((⟨R + 1, 0, none⟩ : Addr).add j) = some v := by
        intro j v hv
        have hadd : (⟨R + 1, 0, none⟩ : Addr).add j = ⟨R + 1, j, none⟩ := by unfold Addr.add; split <;> simp_all
        rw [hadd, R2.out.drew.cell j]
        have hj : j < 65 := by rw [← hcl]; exact (List.getElem?_eq_some_iff.1 hv).1
        rw [hcs] at hv
        simp [uw, hj] at hv ⊢
        exact hv
      have hone : ∀ v ∈ cs, v.oneCell' = true := by
        intro v hv
        rw [hcs] at hv
        exact (Array.all_eq_true_iff_forall_mem.1 (uw_one (m.take 65))) v (by simpa using hv)
      have HCS := Lib.hid hcs
      have HCUR := Lib.hid hcur
      have HSRC := Lib.hid hsrc
      have HONE := Lib.hid hone
      clear hcs hcur hsrc hone
      go_region_law? (refine step_copy_splice rfl (.tmp 43) (.tmp 44) 38 38 rfl 23 Try.underlying38 (by kernel_rfl) (some ⟨O, 0, none⟩) (some ⟨R + 1, 0, none⟩) 65 65 67 67 (by simp [Act.eval, Act.put]) (by simp [Act.eval, Act.put]) O 0 cur 26 (by have := R1.out.drew; unfold Row at this; rw [this, HCUR.out]) cs (by rw [hcl]; rfl) (fun _ => ⟨rfl, _, rfl, HSRC.out⟩) (by omega) HONE.out O w3.drew (Below.refl _ _) (Nat.le_refl _) ?_; intro w4 hw4 hb4)
      have hz0 : splice cur 0 cs = (uw m).toList := by
        rw [HCUR.out, HCS.out, HZ.out, HX5.out, HX6.out]
        exact uw_splice m [] hlen
      have r5 : Row w4 O (uw m) 26 := by
        have := hw4.out
        rw [hz0] at this
        simpa [Row] using this
      have r6 : Row w4 R (uw (List.replicate 67 0)) 26 := R3.out.drew.of_heap (hb4.block R (by omega))
      go_wp2_with (first
        | refine wpList_load_u67 rfl (.tmp 9) rfl O _ (by simp [Act.eval]) m hlen r5 ?_
        | refine wpList_store_u67 rfl (.tmp 4) (.tmp 46) rfl R _ (by simp [Act.eval, Act.put]) (List.replicate 67 0) m (by simp [Act.eval, Act.put]) (by simp) hlen r6 ?_)
      refine bodyPost_ret (results_u67 rfl _ _ R _ m hlen rfl r6.setRow) rfl ?_
      refine ⟨rfl, ?_⟩
      have s0 := R4.out
      have hr := HR.out
      refine ⟨hb4.os.trans s0.os, hb4.tape.trans s0.tape, hb4.output.trans s0.output, ?_, fun k hk hf => ?_⟩
      · have h1 := hb4.size
        have h2 := s0.size
        simp [World.setRow] at h1 ⊢
        omega
      · rw [setRow_other w4 R k _ (by omega), hb4.block k (by omega)]
        exact s0.block k hk hf
end Go.Proofs.Ytdedmmjmiakidaa
/- Plain words: what a tally's and a histogram's calls do between two turns, told apart from memory. No condition. -/
namespace Go.Proofs.Ytdedmmjmiakidaa
open Go.Conc Go.RowKit
/-- A tally's shards, a histogram's words. -/
structure TSt where
  s : List Nat
  h : List Nat
/-- Where a call waits. -/
inductive TPos
  | add (i v : Nat)
  | part (i : Nat) (l : List Nat)
  | h1 (v : Nat)
  | h2 (v : Nat)
  | h3 (v : Nat)
  | h4 (v m : Nat)
  | get (i : Nat) (l : List Nat)
/-- What it answers. -/
inductive TRes
  | num (x : Nat)
  | list (l : List Nat)
  | come
def TPos.mark : TPos → Int × Int
  | .add i _ => (3, i)
  | .part i _ => (1, i)
  | .h1 v => (3, Lib.bitLen v)
  | .h2 _ => (3, 65)
  | .h3 _ => (1, 66)
  | .h4 _ _ => (5, 66)
  | .get i _ => (1, i)
def addAt (m : List Nat) (i v : Nat) : List Nat := m.set i ((m.getD i 0 + v) % 18446744073709551616)
def TPos.exec : TPos → TSt → TSt × (TPos ⊕ TRes)
  | .add i v, a => ({ a with s := addAt a.s i v }, .inr (.num ((a.s.getD i 0 + v) % 18446744073709551616)))
  | .part i l, a => (a, if i + 1 < a.s.length then .inl (.part (i + 1) (l ++ [a.s.getD i 0])) else .inr (.list (l ++ [a.s.getD i 0])))
  | .h1 v, a => ({ a with h := addAt a.h (Lib.bitLen v) 1 }, .inl (.h2 v))
  | .h2 v, a => ({ a with h := addAt a.h 65 v }, .inl (.h3 v))
  | .h3 v, a => (a, if v ≤ a.h.getD 66 0 then .inr .come else .inl (.h4 v (a.h.getD 66 0)))
  | .h4 v m, a => if a.h.getD 66 0 = m then ({ a with h := a.h.set 66 v }, .inr .come) else (a, .inl (.h3 v))
  | .get i l, a => (a, if i + 1 < 67 then .inl (.get (i + 1) (l ++ [a.h.getD i 0])) else .inr (.list (l ++ [a.h.getD i 0])))
/-- A tally and a histogram in memory. -/
structure TRep (T A H n : Nat) (a : TSt) (w : World) : Prop where
  tal : Tal T A a.s w
  his : His H a.h w
  len : a.s.length = n
  ls : ∀ x ∈ a.s, x < 18446744073709551616
  lh : ∀ x ∈ a.h, x < 18446744073709551616
  hT : H ≠ T
  hA : H ≠ A
theorem TRep.of_same {T A H n : Nat} {a : TSt} {w w' : World} (h : TRep T A H n a w) (hT : w'.heap[T]? = w.heap[T]?) (hA : w'.heap[A]? = w.heap[A]?) (hH : w'.heap[H]? = w.heap[H]?) : TRep T A H n a w' :=
  { h with tal := { h.tal with rT := h.tal.rT.of_heap hT, rA := h.tal.rA.of_heap hA }, his := h.his.of_heap hH }
/-- The calls. -/
def talJob (T A H n : Nat) : Job where
  St := TSt
  Pos := TPos
  Res := TRes
  mark := TPos.mark
  exec := TPos.exec
  foot := fun _ b => b = T ∨ b = A ∨ b = H
  Rep := TRep T A H n
  frame := fun a u u' h hr => hr.of_same (h T (.inl rfl)) (h A (.inr (.inl rfl))) (h H (.inr (.inr rfl)))
  real := fun a u b hr hb => by
    have key : ∀ {y : Nat} {c : Array Value} {t : TypeId}, Row u y c t → c.size ≠ 0 → ∃ o, u.heap[y]? = some o ∧ (∀ cap buf cl x r t, o ≠ .chan cap buf cl x r t) ∧ ∀ T, o ≠ .cells #[] T (0, 0) := fun h hc =>
      ⟨_, h, fun _ _ _ _ _ _ e => (by cases e), fun T e => by
        have := congrArg (fun o => match o with | Obj.cells c _ _ => c.size | _ => 0) e
        exact hc this⟩
    rcases hb with rfl | rfl | rfl
    · exact key hr.tal.rT (by simp)
    · exact key hr.tal.rA (by have := hr.tal.pos; simp [uw]; intro e; rw [e] at this; simp at this)
    · exact key hr.his.r (by simp [hst])
theorem addAt_len (m : List Nat) (i v : Nat) : (addAt m i v).length = m.length := by simp [addAt]
theorem addAt_lt (m : List Nat) (i v : Nat) (h : ∀ x ∈ m, x < 18446744073709551616) : ∀ x ∈ addAt m i v, x < 18446744073709551616 := fun x hx => by
  rcases List.mem_or_eq_of_mem_set hx with h' | rfl
  · exact h x h'
  · exact Nat.mod_lt _ (by decide)
section
variable {T A H n : Nat} {a : TSt} {u : World}
/-- A shard is counted up. -/
theorem TRep.addS (h : TRep T A H n a u) (i v : Nat) : TRep T A H n { a with s := addAt a.s i v } (u.setCell ⟨A, i, none⟩ (.int .u64 ((a.s.getD i 0 + v) % 18446744073709551616 : Nat))) := by
  have ht := h.tal
  refine ⟨⟨?_, ?_, ht.ne, by rw [addAt_len]; exact ht.pos, by rw [addAt_len]; exact ht.le⟩, ⟨h.his.r.set_ne (fun e => h.hA e.symm) _, h.his.len⟩, by rw [addAt_len]; exact h.len, addAt_lt _ _ _ h.ls, h.lh, h.hT, h.hA⟩
  · rw [addAt_len]; exact ht.rT.set_ne (fun e => ht.ne e.symm) _
  · unfold addAt; rw [← uw_set]; exact ht.rA.set i _
/-- A word of the histogram is written. -/
theorem TRep.setH (h : TRep T A H n a u) (i v : Nat) (hv : v < 18446744073709551616) : TRep T A H n { a with h := a.h.set i v } (u.setCell ⟨H, 1 + i, none⟩ (.int .u64 (v : Nat))) :=
  ⟨{ h.tal with rT := h.tal.rT.set_ne h.hT _, rA := h.tal.rA.set_ne h.hA _ }, h.his.setw i v, h.len, h.ls, fun x hx => by
    rcases List.mem_or_eq_of_mem_set hx with h' | rfl
    · exact h.lh x h'
    · exact hv, h.hT, h.hA⟩
theorem TRep.addH (h : TRep T A H n a u) (i v : Nat) : TRep T A H n { a with h := addAt a.h i v } (u.setCell ⟨H, 1 + i, none⟩ (.int .u64 ((a.h.getD i 0 + v) % 18446744073709551616 : Nat))) :=
  h.setH i _ (Nat.mod_lt _ (by decide))
theorem TRep.shard (h : TRep T A H n a u) {i : Nat} (hi : i < n) : u.cell? ⟨A, i, none⟩ = some (.int .u64 (a.s.getD i 0 : Nat)) := by
  have hl := h.len
  rw [h.tal.rA.cell, uw_get _ _ (by omega)]
  simp [show i < a.s.length by omega]
theorem TRep.word (h : TRep T A H n a u) {i : Nat} (hi : i < 67) : u.cell? ⟨H, 1 + i, none⟩ = some (.int .u64 (a.h.getD i 0 : Nat)) := by
  have hl := h.his.len
  rw [h.his.at i (by omega)]
  simp [show i < a.h.length by omega]
theorem TRep.head (h : TRep T A H n a u) : u.cell? ⟨T, 0, none⟩ = some (.slice (some ⟨A, 0, none⟩) n n) := by
  have := h.tal.rT.cell 0
  rw [h.len] at this
  exact this
theorem TRep.made (h : TRep T A H n a u) : u.cell? ⟨H, 0, none⟩ = some (.bool true) := (h.his.r.cell 0).trans (hst_made _)
end
end Go.Proofs.Ytdedmmjmiakidaa
/- Plain words: a play that ends by itself, told apart from memory. No condition. -/
namespace Go.Proofs.Ytdedmmjmiakidaa
section
variable {Y : Core}
/-- A turn of a thread that stands at pc. -/
def PSt.turn (σ : PSt Y) (i : Nat) (pc : Y.Pc) : PSt Y := ⟨(Y.next pc σ.a).1, σ.ps.set i (Y.next pc σ.a).2, σ.tr ++ [(i, (Y.mark pc).1, (Y.mark pc).2)]⟩
/-- What every turn keeps, and by what it falls. -/
structure Falls (Inv : PSt Y → Prop) (Φ : PSt Y → Nat) : Prop where
  step : ∀ (σ : PSt Y) (i : Nat) (pc : Y.Pc), Inv σ → σ.ps[i]? = some (some pc) → Inv (σ.turn i pc) ∧ Φ (σ.turn i pc) < Φ σ
variable {Inv : PSt Y → Prop} {Φ : PSt Y → Nat}
/-- .. with turns enough. -/
structure Amid (Inv : PSt Y → Prop) (Φ : PSt Y → Nat) (σ : PSt Y) : Prop where
  inv : Inv σ
  few : Φ σ + σ.tr.length ≤ 16384
theorem Amid.take (F : Falls Inv Φ) {σ : PSt Y} (h : Amid Inv Φ σ) (k : Int) : Amid Inv Φ (takeF k σ).1 ∧ ((takeF k σ).2 = true → Φ (takeF k σ).1 < Φ σ) ∧ ((takeF k σ).2 = false → (takeF k σ).1 = σ ∧ ∀ pc, 0 ≤ k → σ.ps[k.toNat]? ≠ some (some pc)) := by
  by_cases hk : k < 0
  · have e : takeF k σ = (σ, false) := by unfold takeF; rw [if_pos hk]
    rw [e]
    exact ⟨h, by simp, fun _ => ⟨rfl, fun pc h0 => by omega⟩⟩
  · obtain ⟨i, rfl⟩ : ∃ i : Nat, k = i := ⟨k.toNat, by omega⟩
    have hi : (i : Int).toNat = i := by simp
    cases hp : σ.ps[i]? with
    | none =>
      rw [take_no (.inl hp), hi, hp]
      exact ⟨h, by simp, fun _ => ⟨rfl, by simp⟩⟩
    | some q =>
      cases q with
      | none =>
        rw [take_no (.inr (.inl hp)), hi, hp]
        exact ⟨h, by simp, fun _ => ⟨rfl, by simp⟩⟩
      | some pc =>
        obtain ⟨f1, f2⟩ := F.step σ i pc h.inv hp
        have hl := h.few
        have e := take_go' hp (by omega)
        rw [e]
        refine ⟨⟨f1, ?_⟩, fun _ => f2, by simp⟩
        show Φ (σ.turn i pc) + (σ.tr ++ [_]).length ≤ _
        rw [List.length_append]
        simp only [List.length_cons, List.length_nil]
        omega
theorem Amid.order (F : Falls Inv Φ) : ∀ (l : List Int) {σ : PSt Y}, Amid Inv Φ σ → Amid Inv Φ (orderF l σ)
  | [], _, h => h
  | k :: l, _, h => Amid.order F l (h.take F k).1
theorem Amid.pass (F : Falls Inv Φ) : ∀ (l : List Nat) {σ : PSt Y} (b : Bool), Amid Inv Φ σ → let x := l.foldl (fun x (k : Nat) => ((takeF (k : Int) x.1).1, (takeF (k : Int) x.1).2 || x.2)) (σ, b)
    Amid Inv Φ x.1 ∧ Φ x.1 ≤ Φ σ ∧ (x.2 = true → b = true ∨ Φ x.1 < Φ σ) ∧ (x.2 = false → x.1 = σ ∧ ∀ k ∈ l, ∀ pc, σ.ps[k]? ≠ some (some pc))
  | [], _, _, h => ⟨h, Nat.le_refl _, .inl, fun _ => ⟨rfl, by simp⟩⟩
  | k :: l, σ, b, h => by
    obtain ⟨h1, h2, h3⟩ := h.take F (k : Int)
    have h4 := Amid.pass F l ((takeF (k : Int) σ).2 || b) h1
    simp only [List.foldl_cons] at h4 ⊢
    generalize takeF (k : Int) σ = z at h1 h2 h3 h4 ⊢
    obtain ⟨σ1, b1⟩ := z
    simp only at h1 h2 h3 h4 ⊢
    obtain ⟨q1, q2, q3, q4⟩ := h4
    cases b1 with
    | true =>
      have := h2 rfl
      refine ⟨q1, by omega, fun _ => .inr (by omega), fun e => ?_⟩
      exfalso
      have key : ∀ (l : List Nat) (σ : PSt Y), (l.foldl (fun x (k : Nat) => ((takeF (k : Int) x.1).1, (takeF (k : Int) x.1).2 || x.2)) (σ, true)).2 = true := fun l => by
        induction l with
        | nil => exact fun _ => rfl
        | cons j l ih =>
          intro σ
          simp only [List.foldl_cons, Bool.or_true]
          exact ih _
      simp only [Bool.true_or] at e
      rw [key] at e
      cases e
    | false =>
      obtain ⟨rfl, h5⟩ := h3 rfl
      simp only [Bool.false_or] at q1 q2 q3 q4 ⊢
      refine ⟨q1, q2, q3, fun e => ?_⟩
      obtain ⟨q5, q6⟩ := q4 e
      refine ⟨q5, fun j hj pc => ?_⟩
      rcases List.mem_cons.1 hj with rfl | hj
      · have := h5 pc (by omega)
        simpa using this
      · exact q6 j hj pc
theorem Amid.rest (F : Falls Inv Φ) : ∀ (n : Nat) {σ : PSt Y}, Amid Inv Φ σ → Φ σ < n → Amid Inv Φ (restF n σ) ∧ ∀ p ∈ (restF n σ).ps, p = none
  | 0, _, _, h => by omega
  | n + 1, σ, h, hn => by
    obtain ⟨h1, h2, h3, h4⟩ := Amid.pass F (List.range σ.ps.length) false h
    show Amid Inv Φ (if (passF (List.range σ.ps.length) σ).2 then restF n (passF (List.range σ.ps.length) σ).1 else (passF (List.range σ.ps.length) σ).1) ∧ ∀ p ∈ (if (passF (List.range σ.ps.length) σ).2 then restF n (passF (List.range σ.ps.length) σ).1 else (passF (List.range σ.ps.length) σ).1).ps, p = none
    change Amid Inv Φ (passF (List.range σ.ps.length) σ).1 at h1
    change Φ (passF (List.range σ.ps.length) σ).1 ≤ Φ σ at h2
    change (passF (List.range σ.ps.length) σ).2 = true → _ ∨ Φ (passF (List.range σ.ps.length) σ).1 < Φ σ at h3
    change (passF (List.range σ.ps.length) σ).2 = false → (passF (List.range σ.ps.length) σ).1 = σ ∧ _ at h4
    generalize passF (List.range σ.ps.length) σ = z at h1 h2 h3 h4 ⊢
    obtain ⟨σ1, b1⟩ := z
    simp only at h1 h2 h3 h4 ⊢
    cases b1 with
    | true =>
      have := (h3 rfl).resolve_left (by simp)
      simp only [if_true]
      exact Amid.rest F n h1 (by omega)
    | false =>
      obtain ⟨rfl, h5⟩ := h4 rfl
      simp only [Bool.false_eq_true, if_false]
      refine ⟨h1, fun p hp => ?_⟩
      obtain ⟨i, hi⟩ := List.getElem?_of_mem hp
      cases p with
      | none => rfl
      | some pc => exact absurd hi (h5 i (List.mem_range.2 (List.getElem?_eq_some_iff.1 hi).1) pc)
/-- A play that falls ends by itself. -/
theorem play_ends (F : Falls Inv Φ) {starts : List (Y.St → Y.St × Option Y.Pc)} {order : List Int} {a : Y.St} (h0 : Inv (startF starts ⟨a, [], []⟩)) (hΦ : Φ (startF starts ⟨a, [], []⟩) ≤ 16384) : Amid Inv Φ (playF starts order a) ∧ ∀ p ∈ (playF starts order a).ps, p = none := by
  have ht : ∀ (l : List (Y.St → Y.St × Option Y.Pc)) (σ : PSt Y), (startF l σ).tr = σ.tr := fun l => by
    induction l with
    | nil => exact fun _ => rfl
    | cons f l ih => exact fun σ => ih _
  have h1 : Amid Inv Φ (startF starts ⟨a, [], []⟩) := ⟨h0, by rw [ht]; simpa using hΦ⟩
  have h2 := h1.order F order
  have := h2.few
  exact Amid.rest F 16385 h2 (by omega)
end
end Go.Proofs.Ytdedmmjmiakidaa
/- Plain words: threads that count, and one that asks for the sum while they do: what comes of it, in whatever order. No condition. -/
namespace Go.Proofs.Ytdedmmjmiakidaa
open Go.ConcN (sumTo upd sumTo_upd upd_ne upd_same sumTo_congr le_sumTo)
section plain
theorem sumTo_one {f g : Nat → Nat} {i N : Nat} (hi : i < N) (h : ∀ k, k < N → k ≠ i → g k = f k) : sumTo N g + f i = sumTo N f + g i := by
  have h1 := sumTo_upd f (g i) (fun x => x) hi
  rw [sumTo_congr (g := fun a => upd f i (g i) a) (f := g) fun k hk => ?_]
  · exact h1
  · by_cases e : k = i
    · subst e; simp [upd]
    · simp [upd, e, h k hk e]
theorem sumTo_mono {f g : Nat → Nat} : ∀ {N : Nat}, (∀ k, k < N → f k ≤ g k) → sumTo N f ≤ sumTo N g
  | 0, _ => Nat.le_refl _
  | N + 1, h => by
    have h1 := sumTo_mono (N := N) fun k hk => h k (by omega)
    have h2 := h N (by omega)
    show sumTo N f + f N ≤ sumTo N g + g N
    omega
theorem sumTo_zero : ∀ N : Nat, sumTo N (fun _ => 0) = 0
  | 0 => rfl
  | N + 1 => by show sumTo N _ + 0 = 0; rw [sumTo_zero N]
theorem sumTo_add (f g : Nat → Nat) : ∀ N : Nat, sumTo N f + sumTo N g = sumTo N (fun k => f k + g k)
  | 0 => rfl
  | N + 1 => by
    have := sumTo_add f g N
    show sumTo N f + f N + (sumTo N g + g N) = sumTo N (fun k => f k + g k) + (f N + g N)
    omega
theorem sumTo_pre {f : Nat → Nat} {i : Nat} : ∀ {N : Nat}, i ≤ N → sumTo i f ≤ sumTo N f
  | 0, h => by obtain rfl : i = 0 := by omega
               exact Nat.le_refl _
  | N + 1, h => by
    by_cases e : i = N + 1
    · subst e; exact Nat.le_refl _
    · have := sumTo_pre (f := f) (i := i) (N := N) (by omega)
      show sumTo i f ≤ sumTo N f + f N
      omega
theorem getD_setL (m : List Nat) (i j v : Nat) (hi : i < m.length) : (m.set i v).getD j 0 = if j = i then v else m.getD j 0 := by
  simp only [List.getD_eq_getElem?_getD, List.getElem?_set]
  by_cases e : i = j
  · subst e; simp [hi]
  · rw [if_neg e, if_neg (fun h => e h.symm)]
theorem ps_getD {α : Type} {ps : List (Option α)} {k : Nat} {q : Option α} (hk : k < ps.length) (k' : Nat) : (ps.set k q).getD k' none = if k' = k then q else ps.getD k' none := by
  simp only [List.getD_eq_getElem?_getD, List.getElem?_set]
  by_cases e : k = k'
  · subst e; simp [hk]
  · rw [if_neg e, if_neg (fun h => e h.symm)]
/-- A shard is counted up: the sum of the first so many. -/
theorem sum_set {s : List Nat} {j v : Nat} (hj : j < s.length) (i : Nat) : sumTo i (fun t => (s.set j (s.getD j 0 + v)).getD t 0) = sumTo i (fun t => s.getD t 0) + if j < i then v else 0 := by
  by_cases e : j < i
  · have h := sumTo_one (f := fun t => s.getD t 0) (g := fun t => (s.set j (s.getD j 0 + v)).getD t 0) e fun t _ hne => by simp only [getD_setL _ _ _ _ hj, if_neg hne]
    simp only [getD_setL _ _ _ _ hj, if_true] at h ⊢
    rw [if_pos e]
    omega
  · rw [if_neg e, Nat.add_zero]
    exact sumTo_congr fun t ht => by rw [getD_setL _ _ _ _ hj, if_neg (by omega)]
end plain
def rowOf (rows : List (List Nat)) (k : Nat) : List Nat := rows.getD k []
/-- What is begun, what is ended, is all well. -/
structure BwB where
  begun : Nat
  ended : Nat
  ok : Bool
/-- Which thread, which call, what was ended ahead of it. -/
abbrev BwC := Nat × Nat × Nat
def bv (rows : List (List Nat)) (k i : Nat) : Nat := (rowOf rows k).getD i 0 % 1099511627776
def w64 (x : Nat) : Nat := x % 18446744073709551616
def lsum64 (l : List Nat) : Nat := l.foldl (fun s x => (s + x) % 18446744073709551616) 0
section
variable (rows : List (List Nat)) (N m : Nat)
/-- What a thread begins with. -/
def bwNext (k i : Nat) (β : BwB) : BwB × Option (TPos × BwC) :=
  if k < m then (if i < (rowOf rows k).length then ({ β with begun := w64 (β.begun + bv rows k i) }, some (.add ((k + i) % N) (bv rows k i), (k, i, 0))) else (β, none))
  else if i < 8 then (β, some (.part 0 [], (k, i, β.ended))) else (β, none)
def bwUpd (c : BwC) (r : TRes) (β : BwB) : BwB := match r with
  | .num _ => { β with ended := w64 (β.ended + bv rows c.1 c.2.1) }
  | .list l => { β with ok := β.ok && decide (c.2.2 ≤ lsum64 l) && decide (lsum64 l ≤ β.begun) }
  | .come => β
def bwFin (c : BwC) (r : TRes) (σ : TSt × BwB) : (TSt × BwB) × Option (TPos × BwC) := ((σ.1, (bwNext rows N m c.1 (c.2.1 + 1) (bwUpd rows c r σ.2)).1), (bwNext rows N m c.1 (c.2.1 + 1) (bwUpd rows c r σ.2)).2)
/-- What comes of a turn. -/
def bwStep (p : TPos × BwC) (a : TSt) (β : BwB) : TSt × BwB × Option (TPos × BwC) := match p.1.exec a with
  | (a', .inl q) => (a', β, some (q, p.2))
  | (a', .inr r) => (a', (bwFin rows N m p.2 r (a', β)).1.2, (bwFin rows N m p.2 r (a', β)).2)
def pre (k i : Nat) : Nat := sumTo i (bv rows k)
def ixOf (k : Nat) : Option (TPos × BwC) → Nat
  | none => (rowOf rows k).length
  | some (_, c) => c.2.1
def okA (k : Nat) : Option (TPos × BwC) → Prop
  | none => True
  | some (.add j v, c) => c.1 = k ∧ c.2.1 < (rowOf rows k).length ∧ j = (k + c.2.1) % N ∧ v = bv rows k c.2.1
  | _ => False
end
def pend : Option (TPos × BwC) → Nat
  | some (.add _ v, _) => v
  | _ => 0
def okS (N m : Nat) (s : List Nat) : Option (TPos × BwC) → Prop
  | none => True
  | some (.part j l, c) => c.1 = m ∧ c.2.1 < 8 ∧ j < N ∧ l.length = j ∧ c.2.2 + sumTo j (fun t => s.getD t 0) ≤ l.sum + sumTo N (fun t => s.getD t 0) ∧ l.sum ≤ sumTo j (fun t => s.getD t 0)
  | _ => False
def costA (rows : List (List Nat)) (k : Nat) : Option (TPos × BwC) → Nat
  | none => 0
  | some (_, c) => (rowOf rows k).length - c.2.1
def costS (N : Nat) : Option (TPos × BwC) → Nat
  | some (.part j _, c) => (8 - c.2.1) * N - j
  | _ => 0
section
variable {rows : List (List Nat)} {N m : Nat} {a : TSt} {β : BwB} {ps : List (Option (TPos × BwC))} {k i : Nat}
def total (rows : List (List Nat)) (m : Nat) : Nat := sumTo m fun k => pre rows k (rowOf rows k).length
structure BwInv (rows : List (List Nat)) (N m : Nat) (a : TSt) (β : BwB) (ps : List (Option (TPos × BwC))) : Prop where
  len : ps.length = m + 1
  sl : a.s.length = N
  adds : ∀ k, k < m → okA rows N k (ps.getD k none)
  ask : okS N m a.s (ps.getD m none)
  sum : sumTo N (fun t => a.s.getD t 0) = β.ended
  fin : β.ended = sumTo m (fun k => pre rows k (ixOf rows k (ps.getD k none)))
  beg : β.begun = β.ended + sumTo m (fun k => pend (ps.getD k none))
  ok : β.ok = true
def bwCost (rows : List (List Nat)) (N m : Nat) (ps : List (Option (TPos × BwC))) : Nat := sumTo m (fun k => costA rows k (ps.getD k none)) + costS N (ps.getD m none)
theorem pre_succ : pre rows k (i + 1) = pre rows k i + bv rows k i := rfl
theorem okA_le {p : Option (TPos × BwC)} (h : okA rows N k p) : pre rows k (ixOf rows k p) + pend p ≤ pre rows k (rowOf rows k).length := by
  rcases p with _ | ⟨p, c⟩
  · exact Nat.le_refl _
  · cases p <;> first | exact h.elim | skip
    obtain ⟨h1, h2, h3, h4⟩ := h
    subst h4
    show pre rows k c.2.1 + bv rows k c.2.1 ≤ _
    rw [← pre_succ]
    exact sumTo_pre h2
theorem bound (h : ∀ k, k < m → okA rows N k (ps.getD k none)) : sumTo m (fun k => pre rows k (ixOf rows k (ps.getD k none))) + sumTo m (fun k => pend (ps.getD k none)) ≤ total rows m := by
  rw [sumTo_add]
  exact sumTo_mono fun k hk => okA_le (h k hk)
theorem lsum_small {l : List Nat} (h : l.sum < 18446744073709551616) : lsum64 l = l.sum := by
  have key : ∀ (l : List Nat) (c : Nat), c + l.sum < 18446744073709551616 → l.foldl (fun s x => (s + x) % 18446744073709551616) c = c + l.sum := fun l => by
    induction l with
    | nil => intro c _; simp
    | cons x l ih =>
      intro c hc
      rw [List.sum_cons] at hc
      rw [List.foldl_cons, Nat.mod_eq_of_lt (by omega), ih _ (by omega), List.sum_cons]
      omega
  have := key l 0 (by omega)
  rwa [Nat.zero_add] at this
theorem next_okA (hk : k < m) {β : BwB} : okA rows N k (bwNext rows N m k i β).2 := by
  unfold bwNext
  rw [if_pos hk]
  split
  · exact ⟨rfl, by assumption, rfl, rfl⟩
  · trivial
/-- An adder's turn. -/
theorem BwInv.add (h : BwInv rows N m a β ps) (hN : 0 < N) (hT : total rows m < 9223372036854775808) (hk : k < m) {p : TPos × BwC} (hp : ps[k]? = some (some p)) :
    BwInv rows N m (bwStep rows N m p a β).1 (bwStep rows N m p a β).2.1 (ps.set k (bwStep rows N m p a β).2.2) ∧ bwCost rows N m (ps.set k (bwStep rows N m p a β).2.2) < bwCost rows N m ps := by
  obtain ⟨p, ck, ci, cl⟩ := p
  have hkl : k < ps.length := (List.getElem?_eq_some_iff.1 hp).1
  have hget : ps.getD k none = some (p, (ck, ci, cl)) := by rw [List.getD_eq_getElem?_getD, hp]; rfl
  have hok := h.adds k hk
  have hb := bound h.adds
  have hgd : ∀ (q : Option (TPos × BwC)) j, (ps.set k q).getD j none = if j = k then q else ps.getD j none := fun q j => ps_getD hkl j
  rw [hget] at hok
  cases p <;> first | exact hok.elim | skip
  rename_i j v
  obtain ⟨h1, h2, h3, h4⟩ := hok
  simp only at h1 h2 h3 h4
  have hj : j < N := by rw [h3]; exact Nat.mod_lt _ hN
  have hfin := h.fin
  have hbeg := h.beg
  have hsum := h.sum
  have hvle : β.ended + v ≤ total rows m := by
    have h6 : pend (ps.getD k none) ≤ sumTo m (fun k => pend (ps.getD k none)) := le_sumTo (f := fun k => pend (ps.getD k none)) hk
    have h7 : pend (ps.getD k none) = v := by rw [hget]; rfl
    omega
  have hsj : a.s.getD j 0 ≤ β.ended := by
    rw [← hsum]
    exact le_sumTo (f := fun t => a.s.getD t 0) hj
  have hadd : addAt a.s j v = a.s.set j (a.s.getD j 0 + v) := by
    unfold addAt
    rw [Nat.mod_eq_of_lt (by omega)]
  have hexec : TPos.exec (.add j v) a = ({ a with s := a.s.set j (a.s.getD j 0 + v) }, .inr (.num ((a.s.getD j 0 + v) % 18446744073709551616))) := by
    show ({ a with s := addAt a.s j v }, _) = _
    rw [hadd]
  obtain ⟨q, hq⟩ : ∃ q, q = (bwNext rows N m k (ci + 1) { β with ended := β.ended + v }).2 := ⟨_, rfl⟩
  have hqok : okA rows N k q := by rw [hq]; exact next_okA hk
  have hix : ixOf rows k q = ci + 1 := by
    rw [hq]
    unfold bwNext
    rw [if_pos hk]
    split
    · rfl
    · show (rowOf rows k).length = _; omega
  have hsets : ∀ k', k' < m → okA rows N k' ((ps.set k q).getD k' none) := fun k' hk' => by
    rw [hgd]
    by_cases e : k' = k
    · subst e; rw [if_pos rfl]; exact hqok
    · rw [if_neg e]; exact h.adds k' hk'
  have hb2 := bound hsets
  have hpre : sumTo m (fun k' => pre rows k' (ixOf rows k' ((ps.set k q).getD k' none))) = β.ended + v := by
    have e : sumTo m (fun k' => pre rows k' (ixOf rows k' ((ps.set k q).getD k' none))) + pre rows k (ixOf rows k (ps.getD k none)) = sumTo m (fun k' => pre rows k' (ixOf rows k' (ps.getD k' none))) + pre rows k (ixOf rows k ((ps.set k q).getD k none)) :=
      sumTo_one (f := fun k' => pre rows k' (ixOf rows k' (ps.getD k' none))) (g := fun k' => pre rows k' (ixOf rows k' ((ps.set k q).getD k' none))) hk fun k' _ hne => by simp only [hgd, if_neg hne]
    have h6 : pre rows k (ixOf rows k (ps.getD k none)) = pre rows k ci := by rw [hget]; rfl
    have h7 : pre rows k (ixOf rows k ((ps.set k q).getD k none)) = pre rows k ci + v := by rw [hgd, if_pos rfl, hix, pre_succ, h4]
    rw [h6, h7] at e
    omega
  have hpend : sumTo m (fun k' => pend ((ps.set k q).getD k' none)) + v = sumTo m (fun k' => pend (ps.getD k' none)) + pend q := by
    have e : sumTo m (fun k' => pend ((ps.set k q).getD k' none)) + pend (ps.getD k none) = sumTo m (fun k' => pend (ps.getD k' none)) + pend ((ps.set k q).getD k none) :=
      sumTo_one (f := fun k' => pend (ps.getD k' none)) (g := fun k' => pend ((ps.set k q).getD k' none)) hk fun k' _ hne => by simp only [hgd, if_neg hne]
    have h6 : pend (ps.getD k none) = v := by rw [hget]; rfl
    have h7 : pend ((ps.set k q).getD k none) = pend q := by rw [hgd, if_pos rfl]
    rw [h6, h7] at e
    exact e
  have hstep : bwStep rows N m (.add j v, (ck, ci, cl)) a β = ({ a with s := a.s.set j (a.s.getD j 0 + v) }, { begun := β.begun + pend q, ended := β.ended + v, ok := β.ok }, q) := by
    unfold bwStep
    simp only [hexec, bwFin, bwUpd]
    have hck : ck = k := h1
    subst hck
    have e1 : w64 (β.ended + bv rows ck ci) = β.ended + v := by rw [← h4]; unfold w64; exact Nat.mod_eq_of_lt (by omega)
    rw [e1]
    refine Prod.ext rfl (Prod.ext ?_ hq.symm)
    show (bwNext rows N m ck (ci + 1) { β with ended := β.ended + v }).1 = _
    have hb3 : β.begun + pend q ≤ total rows m := by omega
    rw [hq] at hb3 ⊢
    unfold bwNext at hb3 ⊢
    rw [if_pos hk] at hb3 ⊢
    split
    · rename_i hlt
      rw [if_pos hlt] at hb3
      have hb3 : β.begun + bv rows ck (ci + 1) ≤ total rows m := hb3
      show (⟨w64 (β.begun + bv rows ck (ci + 1)), β.ended + v, β.ok⟩ : BwB) = ⟨β.begun + bv rows ck (ci + 1), β.ended + v, β.ok⟩
      rw [show w64 (β.begun + bv rows ck (ci + 1)) = β.begun + bv rows ck (ci + 1) from Nat.mod_eq_of_lt (by omega)]
    · rfl
  rw [hstep]
  have hss : ∀ i, sumTo i (fun t => (a.s.set j (a.s.getD j 0 + v)).getD t 0) = sumTo i (fun t => a.s.getD t 0) + if j < i then v else 0 := fun i => sum_set (by rw [h.sl]; exact hj) i
  have hmk : (ps.set k q).getD m none = ps.getD m none := by rw [hgd, if_neg (by omega)]
  refine ⟨⟨by simpa using h.len, by simpa using h.sl, hsets, ?_, ?_, ?_, ?_, h.ok⟩, ?_⟩
  · rw [hmk]
    have h0 := h.ask
    revert h0
    generalize ps.getD m none = z
    intro h0
    rcases z with _ | ⟨p', c'⟩
    · trivial
    · cases p' <;> first | exact h0.elim | skip
      rename_i j' l'
      obtain ⟨z1, z2, z3, z4, z5, z6⟩ := h0
      refine ⟨z1, z2, z3, z4, ?_, ?_⟩
      · rw [hss, hss, if_pos hj]
        split <;> omega
      · rw [hss]; omega
  · show sumTo N (fun t => (a.s.set j (a.s.getD j 0 + v)).getD t 0) = β.ended + v
    rw [hss, if_pos hj, hsum]
  · exact hpre.symm
  · show β.begun + pend q = β.ended + v + sumTo m (fun k' => pend ((ps.set k q).getD k' none))
    omega
  · unfold bwCost
    rw [hmk]
    have e : sumTo m (fun k' => costA rows k' ((ps.set k q).getD k' none)) + costA rows k (ps.getD k none) = sumTo m (fun k' => costA rows k' (ps.getD k' none)) + costA rows k ((ps.set k q).getD k none) :=
      sumTo_one (f := fun k' => costA rows k' (ps.getD k' none)) (g := fun k' => costA rows k' ((ps.set k q).getD k' none)) hk fun k' _ hne => by simp only [hgd, if_neg hne]
    have c1 : costA rows k (ps.getD k none) = (rowOf rows k).length - ci := by rw [hget]; rfl
    have c3 : costA rows k ((ps.set k q).getD k none) = costA rows k q := by rw [hgd, if_pos rfl]
    rw [c1, c3] at e
    have c2 : costA rows k q ≤ (rowOf rows k).length - (ci + 1) := by
      rw [hq]
      unfold bwNext
      rw [if_pos hk]
      split
      · exact Nat.le_refl _
      · exact Nat.zero_le _
    show sumTo m (fun k' => costA rows k' ((ps.set k q).getD k' none)) + costS N (ps.getD m none) < _
    omega
/-- The asker's turn. -/
theorem BwInv.asks (h : BwInv rows N m a β ps) (hN : 0 < N) (hT : total rows m < 9223372036854775808) {p : TPos × BwC} (hp : ps[m]? = some (some p)) :
    BwInv rows N m (bwStep rows N m p a β).1 (bwStep rows N m p a β).2.1 (ps.set m (bwStep rows N m p a β).2.2) ∧ bwCost rows N m (ps.set m (bwStep rows N m p a β).2.2) < bwCost rows N m ps := by
  obtain ⟨p, ck, ci, cl⟩ := p
  have hkl : m < ps.length := (List.getElem?_eq_some_iff.1 hp).1
  have hget : ps.getD m none = some (p, (ck, ci, cl)) := by rw [List.getD_eq_getElem?_getD, hp]; rfl
  have hok := h.ask
  have hb := bound h.adds
  have hgd : ∀ (q : Option (TPos × BwC)) j, (ps.set m q).getD j none = if j = m then q else ps.getD j none := fun q j => ps_getD hkl j
  have hne : ∀ (q : Option (TPos × BwC)) j, j < m → (ps.set m q).getD j none = ps.getD j none := fun q j hj => by rw [hgd, if_neg (by omega)]
  have hme : ∀ (q : Option (TPos × BwC)), (ps.set m q).getD m none = q := fun q => by rw [hgd, if_pos rfl]
  have hfin := h.fin
  have hbeg := h.beg
  have hsum := h.sum
  have hcost : ∀ q : Option (TPos × BwC), costS N q < costS N (ps.getD m none) → bwCost rows N m (ps.set m q) < bwCost rows N m ps := fun q hq => by
    unfold bwCost
    rw [hme, sumTo_congr (f := fun k => costA rows k ((ps.set m q).getD k none)) (g := fun k => costA rows k (ps.getD k none)) fun k hk => by rw [hne q k hk]]
    omega
  have hmk : ∀ (q : Option (TPos × BwC)) (b' : Bool), b' = true → okS N m a.s q → BwInv rows N m a { β with ok := b' } (ps.set m q) := fun q b' hb' hq => by
    refine ⟨by simpa using h.len, h.sl, fun k hk => by rw [hne q k hk]; exact h.adds k hk, by rw [hme]; exact hq, hsum, ?_, ?_, hb'⟩
    · rw [sumTo_congr (f := fun k => pre rows k (ixOf rows k ((ps.set m q).getD k none))) (g := fun k => pre rows k (ixOf rows k (ps.getD k none))) fun k hk => by rw [hne q k hk]]
      exact hfin
    · rw [sumTo_congr (f := fun k => pend ((ps.set m q).getD k none)) (g := fun k => pend (ps.getD k none)) fun k hk => by rw [hne q k hk]]
      exact hbeg
  rw [hget] at hok hcost
  cases p <;> first | exact hok.elim | skip
  rename_i j l
  obtain ⟨h1, h2, h3, h4, h5, h6⟩ := hok
  simp only at h1 h2 h3 h4 h5 h6
  have hsl := h.sl
  have hsucc : sumTo (j + 1) (fun t => a.s.getD t 0) = sumTo j (fun t => a.s.getD t 0) + a.s.getD j 0 := rfl
  have hcur : costS N (some (TPos.part j l, ck, ci, cl)) = (8 - ci) * N - j := rfl
  have hmul : (8 - ci) * N = (8 - (ci + 1)) * N + N := by
    rw [show 8 - ci = (8 - (ci + 1)) + 1 from by omega, Nat.succ_mul]
  by_cases hlast : j + 1 < N
  · have hexec : TPos.exec (.part j l) a = (a, .inl (.part (j + 1) (l ++ [a.s.getD j 0]))) := by
      show (a, if j + 1 < a.s.length then _ else _) = _
      rw [if_pos (by rw [hsl]; exact hlast)]
    have hstep : bwStep rows N m (.part j l, (ck, ci, cl)) a β = (a, β, some (.part (j + 1) (l ++ [a.s.getD j 0]), (ck, ci, cl))) := by
      unfold bwStep
      simp only [hexec]
    rw [hstep]
    refine ⟨hmk _ β.ok h.ok ⟨h1, h2, hlast, by simp [h4], ?_, ?_⟩, hcost _ ?_⟩
    · rw [hsucc, List.sum_append, List.sum_singleton]
      show cl + _ ≤ _
      omega
    · rw [hsucc, List.sum_append, List.sum_singleton]; omega
    · rw [hcur]
      show (8 - ci) * N - (j + 1) < _
      omega
  · have hjN : j + 1 = N := by omega
    have hexec : TPos.exec (.part j l) a = (a, .inr (.list (l ++ [a.s.getD j 0]))) := by
      show (a, if j + 1 < a.s.length then _ else _) = _
      rw [if_neg (by rw [hsl]; exact hlast)]
    have hall : sumTo N (fun t => a.s.getD t 0) = sumTo j (fun t => a.s.getD t 0) + a.s.getD j 0 := by rw [← hjN]; rfl
    have hls : lsum64 (l ++ [a.s.getD j 0]) = l.sum + a.s.getD j 0 := by
      rw [lsum_small (by rw [List.sum_append, List.sum_singleton]; omega), List.sum_append, List.sum_singleton]
    have hstep : bwStep rows N m (.part j l, (ck, ci, cl)) a β = (a, { β with ok := true }, (bwNext rows N m m (ci + 1) { β with ok := true }).2) := by
      unfold bwStep
      simp only [hexec, bwFin, bwUpd, hls]
      have e1 : (β.ok && decide (cl ≤ l.sum + a.s.getD j 0) && decide (l.sum + a.s.getD j 0 ≤ β.begun)) = true := by
        rw [h.ok]
        simp only [Bool.true_and, Bool.and_eq_true, decide_eq_true_eq]
        omega
      rw [e1]
      have hck : ck = m := h1
      subst hck
      unfold bwNext
      rw [if_neg (Nat.lt_irrefl _)]
      split <;> rfl
    rw [hstep]
    refine ⟨hmk _ true rfl ?_, hcost _ ?_⟩
    · unfold bwNext
      rw [if_neg (Nat.lt_irrefl _)]
      split
      · refine ⟨rfl, by assumption, hN, rfl, ?_, ?_⟩
        · show β.ended + 0 ≤ 0 + _
          omega
        · exact Nat.le_refl _
      · trivial
    · rw [hcur]
      unfold bwNext
      rw [if_neg (Nat.lt_irrefl _)]
      split
      · show (8 - (ci + 1)) * N - 0 < _
        omega
      · show 0 < _
        have : 0 < (8 - ci) * N := Nat.mul_pos (by omega) hN
        omega
theorem BwInv.step (h : BwInv rows N m a β ps) (hN : 0 < N) (hT : total rows m < 9223372036854775808) {p : TPos × BwC} (hp : ps[k]? = some (some p)) :
    BwInv rows N m (bwStep rows N m p a β).1 (bwStep rows N m p a β).2.1 (ps.set k (bwStep rows N m p a β).2.2) ∧ bwCost rows N m (ps.set k (bwStep rows N m p a β).2.2) < bwCost rows N m ps := by
  have hk := (List.getElem?_eq_some_iff.1 hp).1
  rw [h.len] at hk
  by_cases e : k < m
  · exact h.add hN hT e hp
  · obtain rfl : k = m := by omega
    exact h.asks hN hT hp
/-- How it ends. -/
theorem BwInv.done (h : BwInv rows N m a β ps) (hp : ∀ p ∈ ps, p = none) : β.ok = true ∧ β.begun = β.ended ∧ sumTo N (fun t => a.s.getD t 0) = β.ended ∧ β.ended ≤ total rows m := by
  have hb := bound h.adds
  have hz : sumTo m (fun k => pend (ps.getD k none)) = 0 := by
    rw [sumTo_congr (g := fun _ => 0) fun k hk => ?_, sumTo_zero]
    have hk' : k < ps.length := by rw [h.len]; omega
    rw [List.getD_eq_getElem?_getD, List.getElem?_eq_getElem hk', Option.getD_some, hp _ (List.getElem_mem hk')]
    rfl
  have := h.beg
  have := h.fin
  exact ⟨h.ok, by omega, h.sum, by omega⟩
end
end Go.Proofs.Ytdedmmjmiakidaa
/- Plain words: what a thread knows of its own memory between two calls; its words. No condition. -/
namespace Go.Proofs.Ytdedmmjmiakidaa
open Go.Conc Go.RowKit
section
variable {J : Job} {K : Client J} {Wg ti : Nat} {s : SV}
abbrev TIx (K : Client J) : Type := K.Ix
/-- What the threads keep, with each one's own memory. -/
abbrev Client.All (K : Client J) := K.B × (Nat → K.Pg)
/-- Thread ti between two calls: the state now, the state to be reached. -/
structure TK (K : Client J) (Wg : Nat) (s : SV) (ti : Nat) (n : TIx K) (a : J.St) (b : K.All) (F : (J.St × K.B) × Option (J.Pos × K.C)) (w : World) : Prop where
  mem : s ∈ n.2.2
  off : Off Wg n.2.2
  sh : ShOk (WgL Wg) Wg n.2.2
  wd : Wd Wg n.2.2 w
  rep : ∃ o : Own, RepT K.core.spec Wg n.2.2 (((a, b.1), b.2), o) w ∧ ∀ z, K.core.Leads ti b.2 o F z → n.2.1 z
variable {n : TIx K} {a a' : J.St} {b b' : K.All} {F : (J.St × K.B) × Option (J.Pos × K.C)} {w : World}
theorem TK.call {p : J.Pos} {c : K.C} (h : TK K Wg s ti n a b ((a, b.1), some (p, c)) w) (hc : K.tid c = ti) : AtT K Wg s c (b.2 ti) n n.1 a (a, .inl p) w := by
  obtain ⟨o, h1, h2⟩ := h.rep
  exact ⟨rfl, h.mem, h.off, h.sh, h.wd, b.1, b.2, o, h1, by rw [hc], fun z hz => h2 z (by rw [← hc]; exact hz)⟩
theorem AtT.answer {c : K.C} {pg : K.Pg} {k : Nat} {r : J.Res} (h : AtT K Wg s c pg n k a (a, .inr r) w) (hc : K.tid c = ti) : ∃ b : K.All, b.2 ti = pg ∧ TK K Wg s ti n a b (K.fin c r (a, b.1)) w := by
  obtain ⟨h1, h2, h3, h4, h5, b, γ, o, h6, h7, h8⟩ := h
  exact ⟨(b, γ), by rw [← hc]; exact h7, h2, h3, h4, h5, o, h6, fun z hz => h8 z (by rw [hc]; exact hz)⟩
theorem TK.done (h : TK K Wg s ti n a b ((a, b.1), none) w) : ThrPost K.core.spec Wg (WgL Wg) s n (.tuple #[]) w := by
  obtain ⟨o, h1, h2⟩ := h.rep
  obtain ⟨n1, E, θ⟩ := n
  exact ⟨rfl, n1, E, _, θ, rfl, h2 ((((a, b.1), b.2), o), none) ⟨⟨rfl, fun _ _ => rfl, rfl⟩, rfl⟩, h.mem, h.off, h.sh, h.wd, h1⟩
/-- What a thread's own step may do to its memory. -/
structure Mv (K : Client J) (ti : Nat) (a a' : J.St) (b b' : K.All) (u u' : World) : Prop where
  rep : J.Rep a' u'
  repB : K.RepB b' u'
  dis : ∀ x, J.foot a' x → ¬ K.footB b' x
  same : Sm (fun x => J.foot a x ∨ K.footB b x) u u'
  grow : ∀ x, J.foot a' x ∨ K.footB b' x → (J.foot a x ∨ K.footB b x) ∨ u.heap.size ≤ x
  others : ∀ j, j ≠ ti → b'.2 j = b.2 j
theorem Mv.refl {u : World} (h1 : J.Rep a u) (h2 : K.RepB b u) (h3 : ∀ x, J.foot a x → ¬ K.footB b x) : Mv K ti a a b b u u := ⟨h1, h2, h3, Sm.refl _ _, fun _ h => .inl h, fun _ _ => rfl⟩
theorem Mv.spec {u u' : World} (o : Own) (h : Mv K ti a a' b b' u u') (hr : K.core.spec.Rep (((a, b.1), b.2), o) u) : K.core.spec.Rep (((a', b'.1), b'.2), o) u' := by
  obtain ⟨hY, ho⟩ := hr
  refine ⟨⟨h.rep, h.repB, h.dis⟩, fun x ob hob => ?_, h.same.os.trans ho.os, h.same.output.trans ho.out⟩
  obtain ⟨q1, q2, q3⟩ := ho.on x ob hob
  have q2 : ¬ (J.foot a x ∨ K.footB b x) := q2
  have hl := (Array.getElem?_eq_some_iff.1 q1).1
  refine ⟨?_, fun hx => ?_, q3⟩
  · rw [h.same.block x hl q2]; exact q1
  · rcases h.grow x hx with h' | h'
    · exact q2 h'
    · omega
theorem due_of {o : Own} (h : ∀ j, j ≠ ti → b'.2 j = b.2 j) (h2 : ∀ z, K.core.Leads ti b.2 o F z → n.2.1 z) : ∀ z, K.core.Leads ti b'.2 o F z → n.2.1 z := fun z hz => h2 z ⟨⟨hz.1.st, fun j hj => (hz.1.others j hj).trans (h j hj), hz.1.pc⟩, hz.2⟩
theorem TK.lone (h : TK K Wg s ti n a b F w) : ∃ u, Ps0 Try.prog (sig Wg n.2.2) w u ∧ J.Rep a u ∧ K.RepB b u ∧ ∀ x, J.foot a x → ¬ K.footB b x := by
  obtain ⟨o, h1, _⟩ := h.rep
  have hu := spoil_ps (P := Try.prog) no_steps (real_of h.off h.wd.kt h.wd.wg)
  exact ⟨_, hu, (h1 _ hu).1⟩
theorem TK.rwg {w' : World} (h : TK K Wg s ti n a b F w) (hR : RWg tWg Wg w w') : TK K Wg s ti n a b F w' := by
  obtain ⟨o, h1, h2⟩ := h.rep
  exact ⟨h.mem, h.off, h.sh, h.wd.rwg h.off hR, o, h1.rwg h.off h.wd hR, h2⟩
/-- A piece by its walk alone. -/
theorem aloneTK {c : Code} {t : Array Value} {Q : TIx K → Exit → Array Value → World → Prop} (h : TK K Wg s ti n a b F w) (hc : okCode thrOk false c = true)
    (hwp : ∀ u, J.Rep a u → K.RepB b u → (∀ x, J.foot a x → ¬ K.footB b x) → c.wp Try.prog (onlyN fun a₁ u' => a₁.defers = [] ∧ ∃ a' b', Mv K ti a a' b b' u u' ∧ ∀ w', TK K Wg s ti n a' b' F w' → Q n .normal a₁.tmps w') ⟨t, []⟩ u) : cps (envT K.core.spec Wg (WgL Wg) s) c Q n t w := by
  obtain ⟨o, h1, h2⟩ := h.rep
  obtain ⟨n1, E, θ⟩ := n
  refine aloneT h.off h.sh h.wd hc fun u hu => ?_
  have hr := h1 u hu
  refine wp_mono (hwp u hr.1.1 hr.1.2.1 hr.1.2.2) fun e a₁ u' q => ?_
  cases e with
  | normal =>
    obtain ⟨q1, a', b', q2, q3⟩ := q
    refine ⟨rfl, q1, fun w' hp hwd _ => q3 w' ⟨h.mem, h.off, h.sh, hwd, o, RepT.intro hp (q2.spec o hr), due_of (n := (n1, E, θ)) q2.others h2⟩⟩
  | _ => exact q.elim
section region
variable {ops : Array Oper} {i : Nat} {o : Oper} {l : List Nat} {t : Array Value} {Qr : TIx K → Array Value → World → Prop}
/-- An operation by its walk alone. -/
theorem opT (h : TK K Wg s ti n a b F w) (v : Value) (a' : J.St) (b' : K.All) (ho : ops[i]? = some o) (hok : thrOk o.op = true) (hw : Region.wanted o (yielded ops t) = true)
    (hrun : ∀ u, J.Rep a u → K.RepB b u → (∀ x, J.foot a x → ¬ K.footB b x) → ∃ u', ((execOp (⟨t, []⟩ : Act).eval o).run Try.prog u = .ok (.value v) u' ∨ (execOp (⟨t, []⟩ : Act).eval o).run Try.prog u = .ok .skip u' ∧ v = undef) ∧ Mv K ti a a' b b' u u')
    (hk : ∀ w', TK K Wg s ti n a' b' F w' → cpsR (envT K.core.spec Wg (WgL Wg) s) ops l Qr n ((⟨t, []⟩ : Act).put o.dst v).tmps w') : cpsR (envT K.core.spec Wg (WgL Wg) s) ops (i :: l) Qr n t w := by
  obtain ⟨oo, h1, h2⟩ := h.rep
  obtain ⟨n1, E, θ⟩ := n
  have real := real_of h.off h.wd.kt h.wd.wg
  have U : Suits Try.prog (sig Wg θ) (RWg tWg Wg) (DH Wg (WgL Wg) (KT θ) (StT θ) (isCh θ)) (KR Wg θ) := suits h.off fun l hl => (h.sh l hl).imp fun a h => ⟨h.1, h.2.1⟩
  have F0 := thr_fit (sig Wg θ)
  refine cpsR_op (envT_ok _ _ _ _) ho hw fun w₁ hR => ?_
  have hR : RWg tWg Wg w w₁ := hR
  have hp0 := spoil_ps (P := Try.prog) no_steps real
  have hp1 : Ps0 Try.prog (sig Wg θ) w₁ (spoil (sig Wg θ) w) := Ps.others hp0 (U.oth _ _ hR)
  have hT := F0.op (⟨t, []⟩ : Act).eval (reads_act _) o hok
  let T : Nat → Question → Nat := fun k => w₁.tape (w₁.drawn + (k - (spoil (sig Wg θ) w).drawn))
  have hp2 := hp0.dealt T
  have hr0 := h1 _ hp2
  obtain ⟨u', hr, hm⟩ := hrun _ hr0.1.1 hr0.1.2.1 hr0.1.2.2
  have key : ∀ nx, (execOp (⟨t, []⟩ : Act).eval o).run Try.prog (World.deal (spoil (sig Wg θ) w) T) = .ok nx u' → ∃ w' es', (execOp (⟨t, []⟩ : Act).eval o).runT Try.prog w₁ #[] = (.ok nx w', es') ∧ DH Wg (WgL Wg) (KT θ) (StT θ) (isCh θ) w₁ w' es' ∧ TK K Wg s ti (n1, E, θ) a' b' F w' := fun nx hr => by
    obtain ⟨w', es', q1, q2, q3, q4⟩ := hT.mild.sim u'.drawn w₁ _ nx u' #[] (hp1.deal u'.drawn) hr (Nat.le_refl _)
    have hKR : KR Wg θ w w' := KR.trans _ _ _ (U.kr _ _ hR) (U.kf _ _ _ _ q3)
    exact ⟨w', es', by simpa using q1, U.list _ _ _ _ _ q3 q4, h.mem, h.off, h.sh, h.wd.kr hKR, oo, RepT.intro q2.off (hm.spec oo hr0), due_of (n := (n1, E, θ)) hm.others h2⟩
  rcases hr with hr | ⟨hr, rfl⟩
  · obtain ⟨w', es', q1, q2, q3⟩ := key _ hr
    exact ⟨v, w', es', .inl q1, q2, hk w' q3⟩
  · obtain ⟨w', es', q1, q2, q3⟩ := key _ hr
    exact ⟨undef, w', es', .inr ⟨q1, rfl⟩, q2, hk w' q3⟩
/-- A read. -/
theorem readTK (h : TK K Wg s ti n a b F w) (v : Value) (ho : ops[i]? = some o) (hok : thrOk o.op = true) (hw : Region.wanted o (yielded ops t) = true)
    (hrun : ∀ u, J.Rep a u → K.RepB b u → (execOp (⟨t, []⟩ : Act).eval o).run Try.prog u = .ok (.value v) u)
    (hk : ∀ w', TK K Wg s ti n a b F w' → cpsR (envT K.core.spec Wg (WgL Wg) s) ops l Qr n ((⟨t, []⟩ : Act).put o.dst v).tmps w') : cpsR (envT K.core.spec Wg (WgL Wg) s) ops (i :: l) Qr n t w :=
  opT h v a b ho hok hw (fun u h1 h2 h3 => ⟨u, .inl (hrun u h1 h2), Mv.refl h1 h2 h3⟩) hk
end region
end
end Go.Proofs.Ytdedmmjmiakidaa
/- Plain words: threads each with a part of its own, beside memory that stands. No condition. -/
namespace Go.Proofs.Ytdedmmjmiakidaa
open Go.Conc Go.RowKit
/-- What is no channel, nor empty. -/
def RealO (o : Obj) : Prop := (∀ cap buf cl x r t, o ≠ .chan cap buf cl x r t) ∧ ∀ T, o ≠ .cells #[] T (0, 0)
/-- A thread's own part: what is told of it, where its memory lies, what it does behind an answer. -/
structure Part (J : Job) where
  PB : Type
  Pg : Type
  C : Type
  upd : Nat → C → J.Res → PB → PB
  nxt : Nat → C → J.Res → Option (J.Pos × C)
  foot : Nat → PB × Pg → Nat → Prop
  Rep : Nat → PB × Pg → World → Prop
  frame : ∀ k p u u', (∀ b, foot k p b → u'.heap[b]? = u.heap[b]?) → Rep k p u → Rep k p u'
  real : ∀ k p u b, Rep k p u → foot k p b → ∃ o, u.heap[b]? = some o ∧ RealO o
/-- What stands. -/
structure Old where
  ob : Nat → Option Obj
  real : ∀ b o, ob b = some o → RealO o
def Old.In (old : Old) (u : World) : Prop := ∀ b o, old.ob b = some o → u.heap[b]? = some o
/-- A cell of what stands. -/
def Old.cell (old : Old) (a : Addr) (v : Value) : Prop := ∃ o, old.ob a.block = some o ∧ ∀ u : World, u.heap[a.block]? = some o → u.cell? a = some v
theorem Old.In.cell {old : Old} {u : World} (h : old.In u) {a : Addr} {v : Value} (hc : old.cell a v) : u.cell? a = some v := by
  obtain ⟨o, h1, h2⟩ := hc
  exact h2 u (h _ _ h1)
theorem Old.cell_of {old : Old} {u : World} {a : Addr} {v : Value} (hc : u.cell? a = some v) (h : old.ob a.block = u.heap[a.block]?) : old.cell a v := by
  have hc' := hc
  unfold World.cell? at hc
  cases hb : u.heap[a.block]? with
  | none => rw [hb] at hc; cases hc
  | some o =>
    refine ⟨o, h.trans hb, fun u' hu => ?_⟩
    rw [← hc']
    unfold World.cell?
    rw [hu, hb]
open Classical in
/-- What is of these blocks, in a world. -/
noncomputable def oldOf (D : Nat → Prop) (u : World) : Old where
  ob := fun b => if D b then (u.heap[b]?).filter (fun o => decide (RealO o)) else none
  real := fun b o h => by
    split at h
    · rw [Option.filter_eq_some_iff] at h
      simpa using h.2
    · cases h
theorem oldOf_at {D : Nat → Prop} {u : World} {b : Nat} {o : Obj} (hD : D b) (h : u.heap[b]? = some o) (hr : RealO o) : (oldOf D u).ob b = some o := by
  classical
  unfold oldOf
  simp only [if_pos hD, h, Option.filter_some]
  rw [if_pos (by simpa using hr)]
theorem oldOf_some {D : Nat → Prop} {u : World} {b : Nat} {o : Obj} (h : (oldOf D u).ob b = some o) : D b ∧ u.heap[b]? = some o := by
  classical
  unfold oldOf at h
  simp only at h
  split at h
  · rw [Option.filter_eq_some_iff] at h
    exact ⟨by assumption, h.1⟩
  · cases h
theorem oldOf_in {D : Nat → Prop} {u : World} : (oldOf D u).In u := fun _ _ h => (oldOf_some h).2
/-- One place is changed. -/
def set1 {α : Type} (f : Nat → α) (k : Nat) (v : α) : Nat → α := fun j => if j = k then v else f j
theorem set1_at {α : Type} {f : Nat → α} {k : Nat} {v : α} : set1 f k v k = v := if_pos rfl
theorem set1_ne {α : Type} {f : Nat → α} {k j : Nat} {v : α} (h : j ≠ k) : set1 f k v j = f j := if_neg h
theorem set1_same {α : Type} {f : Nat → α} {k : Nat} : set1 f k (f k) = f := by
  funext j
  unfold set1
  split
  · rename_i h; rw [h]
  · rfl
theorem set1_twice {α : Type} {f : Nat → α} {k : Nat} {v v' : α} : set1 (set1 f k v) k v' = set1 f k v' := by
  funext j
  unfold set1
  split <;> rfl
section
variable {J : Job} {P : Part J}
/-- All parts in memory. -/
structure PRep (P : Part J) (m : Nat) (old : Old) (β : (Nat → P.PB) × (Nat → P.Pg)) (u : World) : Prop where
  stat : old.In u
  part : ∀ k, k < m → P.Rep k (β.1 k, β.2 k) u
  off : ∀ k x, k < m → P.foot k (β.1 k, β.2 k) x → old.ob x = none
  dis : ∀ j k x, j < m → k < m → j ≠ k → P.foot j (β.1 j, β.2 j) x → ¬ P.foot k (β.1 k, β.2 k) x
def Part.foots (P : Part J) (m : Nat) (old : Old) (β : (Nat → P.PB) × (Nat → P.Pg)) (x : Nat) : Prop := old.ob x ≠ none ∨ ∃ k, k < m ∧ P.foot k (β.1 k, β.2 k) x
/-- Threads with such parts. -/
def Part.client (P : Part J) (base m : Nat) (old : Old) : Client J where
  B := Nat → P.PB
  C := Nat × P.C
  Pg := P.Pg
  base := base
  tid := Prod.fst
  fin := fun c r σ => ((σ.1, set1 σ.2 c.1 (P.upd c.1 c.2 r (σ.2 c.1))), (P.nxt c.1 c.2 r).map fun p => (p.1, (c.1, p.2)))
  tids := fun c r σ p h => by
    obtain ⟨q, _, rfl⟩ := Option.map_eq_some_iff.1 h
    rfl
  footB := P.foots m old
  RepB := PRep P m old
  frameB := fun β u u' h hr => ⟨fun b o hb => (h b (.inl (by rw [hb]; simp))).trans (hr.stat b o hb), fun k hk => P.frame k _ u u' (fun b hb => h b (.inr ⟨k, hk, hb⟩)) (hr.part k hk), hr.off, hr.dis⟩
  realB := fun β u b hr hb => by
    rcases hb with hb | ⟨k, hk, hb⟩
    · obtain ⟨o, ho⟩ := Option.ne_none_iff_exists'.1 hb
      exact ⟨o, hr.stat b o ho, (old.real b o ho).1, (old.real b o ho).2⟩
    · obtain ⟨o, h1, h2⟩ := P.real k _ u b (hr.part k hk) hb
      exact ⟨o, h1, h2.1, h2.2⟩
variable {base m k : Nat} {old : Old} {a : J.St} {b : Nat → P.PB} {γ : Nat → P.Pg} {u u' : World}
/-- A thread changes its own part. -/
theorem part_mv (hk : k < m) {pb : P.PB} {pg : P.Pg} (hA : J.Rep a u) (hB : PRep P m old (b, γ) u) (hd : ∀ x, J.foot a x → ¬ P.foots m old (b, γ) x) (hs : Sm (P.foot k (b k, γ k)) u u') (hr : P.Rep k (pb, pg) u')
    (hg : ∀ x, P.foot k (pb, pg) x → P.foot k (b k, γ k) x ∨ u.heap.size ≤ x) : Mv (P.client base m old) k a a (b, γ) (set1 b k pb, set1 γ k pg) u u' := by
  have lt : ∀ {b o}, u.heap[b]? = some o → b < u.heap.size := fun h => (Array.getElem?_eq_some_iff.1 h).1
  have hAlt : ∀ x, J.foot a x → x < u.heap.size := fun x hx => by
    obtain ⟨o, h, _⟩ := J.real a u x hA hx
    exact lt h
  have hPlt : ∀ j, j < m → ∀ x, P.foot j (b j, γ j) x → x < u.heap.size := fun j hj x hx => by
    obtain ⟨o, h, _⟩ := P.real j _ u x (hB.part j hj) hx
    exact lt h
  have hOlt : ∀ x, old.ob x ≠ none → x < u.heap.size := fun x hx => by
    obtain ⟨o, ho⟩ := Option.ne_none_iff_exists'.1 hx
    exact lt (hB.stat x o ho)
  have a1 : set1 b k pb k = pb := set1_at
  have a2 : set1 γ k pg k = pg := set1_at
  have e1 : ∀ j, j ≠ k → (set1 b k pb) j = b j := fun j h => set1_ne h
  have e2 : ∀ j, j ≠ k → (set1 γ k pg) j = γ j := fun j h => set1_ne h
  have hfoots : ∀ x, P.foots m old (set1 b k pb, set1 γ k pg) x → P.foots m old (b, γ) x ∨ u.heap.size ≤ x := by
    rintro x (h | ⟨j, hj, h⟩)
    · exact .inl (.inl h)
    · by_cases e : j = k
      · subst e
        have h : P.foot j (set1 b j pb j, set1 γ j pg j) x := h
        rw [a1, a2] at h
        exact (hg x h).imp (fun h => .inr ⟨j, hj, h⟩) id
      · have h : P.foot j (set1 b k pb j, set1 γ k pg j) x := h
        rw [e1 j e, e2 j e] at h
        exact .inl (.inr ⟨j, hj, h⟩)
  refine ⟨J.frame a u u' (fun x hx => hs.block x (hAlt x hx) fun h => hd x hx (.inr ⟨k, hk, h⟩)) hA, ⟨fun y o hb => ?_, fun j hj => ?_, fun j x hj hx => ?_, fun i j x hi hj hne hx hy => ?_⟩, fun x hx h => ?_, hs.mono fun x h => .inr (.inr ⟨k, hk, h⟩), fun x hx => ?_, fun j hj => e2 j hj⟩
  · rw [hs.block y (lt (hB.stat y o hb)) fun h => by rw [hB.off k y hk h] at hb; cases hb]
    exact hB.stat y o hb
  · by_cases e : j = k
    · subst e
      show P.Rep j (set1 b j pb j, set1 γ j pg j) u'
      rw [a1, a2]
      exact hr
    · show P.Rep j (set1 b k pb j, set1 γ k pg j) u'
      rw [e1 j e, e2 j e]
      exact P.frame j _ u u' (fun x hx => hs.block x (hPlt j hj x hx) fun h => hB.dis j k x hj hk e hx h) (hB.part j hj)
  · by_cases e : j = k
    · subst e
      have hx : P.foot j (set1 b j pb j, set1 γ j pg j) x := hx
      rw [a1, a2] at hx
      rcases hg x hx with h | h
      · exact hB.off j x hj h
      · by_cases ho : old.ob x = none
        · exact ho
        · have := hOlt x ho; omega
    · have hx : P.foot j (set1 b k pb j, set1 γ k pg j) x := hx
      rw [e1 j e, e2 j e] at hx
      exact hB.off j x hj hx
  · have key : ∀ j, j < m → j ≠ k → P.foot j (b j, γ j) x → ¬ P.foot k (pb, pg) x := fun j hj e h1 h2 => by
      rcases hg x h2 with h | h
      · exact hB.dis j k x hj hk e h1 h
      · have := hPlt j hj x h1; omega
    replace hx : P.foot i (set1 b k pb i, set1 γ k pg i) x := hx
    replace hy : P.foot j (set1 b k pb j, set1 γ k pg j) x := hy
    by_cases ei : i = k
    · subst ei
      rw [a1, a2] at hx
      have ej : j ≠ i := fun e => hne e.symm
      rw [e1 j ej, e2 j ej] at hy
      exact key j hj ej hy hx
    · rw [e1 i ei, e2 i ei] at hx
      by_cases ej : j = k
      · subst ej
        rw [a1, a2] at hy
        exact key i hi ei hx hy
      · rw [e1 j ej, e2 j ej] at hy
        exact hB.dis i j x hi hj hne hx hy
  · rcases hfoots x h with h' | h'
    · exact hd x hx h'
    · have := hAlt x hx; omega
  · rcases hx with hx | hx
    · exact .inl (.inl hx)
    · exact (hfoots x hx).imp .inr id
variable {Wg : Nat} {s : SV} {n : TIx (P.client base m old)} {F : (J.St × (P.client base m old).B) × Option (J.Pos × (P.client base m old).C)} {w : World}
/-- A piece that touches the thread's own part alone. -/
theorem aloneP {c : Code} {t : Array Value} {Q : TIx (P.client base m old) → Exit → Array Value → World → Prop} (hk : k < m) (h : TK (P.client base m old) Wg s k n a (b, γ) F w) (hc : okCode thrOk false c = true)
    (hwp : ∀ u, old.In u → P.Rep k (b k, γ k) u → c.wp Try.prog (onlyN fun a₁ u' => a₁.defers = [] ∧ ∃ pb pg, P.Rep k (pb, pg) u' ∧ Sm (P.foot k (b k, γ k)) u u' ∧ (∀ x, P.foot k (pb, pg) x → P.foot k (b k, γ k) x ∨ u.heap.size ≤ x) ∧
      ∀ w', TK (P.client base m old) Wg s k n a (set1 b k pb, set1 γ k pg) F w' → Q n .normal a₁.tmps w') ⟨t, []⟩ u) : cps (envT (P.client base m old).core.spec Wg (WgL Wg) s) c Q n t w :=
  aloneTK h hc fun u h1 h2 h3 => wp_mono (hwp u h2.stat (h2.part k hk)) fun e a₁ u' q => by
    cases e with
    | normal =>
      obtain ⟨q1, pb, pg, q2, q3, q4, q5⟩ := q
      exact ⟨q1, a, _, part_mv hk h1 h2 h3 q3 q2 q4, q5⟩
    | _ => exact q.elim
/-- .. told by what its frame and its part are behind it. -/
theorem aloneY {c : Code} {t : Array Value} {Q : TIx (P.client base m old) → Exit → Array Value → World → Prop} (Okay : Array Value → P.PB → P.Pg → Prop) (hk : k < m) (h : TK (P.client base m old) Wg s k n a (b, γ) F w) (hc : okCode thrOk false c = true)
    (hwp : ∀ (u : World) (K : Array Value → World → Prop), old.In u → P.Rep k (b k, γ k) u → (∀ t' u' pb pg, P.Rep k (pb, pg) u' → Sm (P.foot k (b k, γ k)) u u' → (∀ x, P.foot k (pb, pg) x → P.foot k (b k, γ k) x ∨ u.heap.size ≤ x) → Okay t' pb pg → K t' u') →
      c.wp Try.prog (onlyN fun a₁ u' => a₁.defers = [] ∧ K a₁.tmps u') ⟨t, []⟩ u)
    (hq : ∀ t' pb pg w', Okay t' pb pg → TK (P.client base m old) Wg s k n a (set1 b k pb, set1 γ k pg) F w' → Q n .normal t' w') : cps (envT (P.client base m old).core.spec Wg (WgL Wg) s) c Q n t w :=
  aloneP hk h hc fun u h1 h2 => wp_mono (hwp u (fun t' u' => ∃ pb pg, P.Rep k (pb, pg) u' ∧ Sm (P.foot k (b k, γ k)) u u' ∧ (∀ x, P.foot k (pb, pg) x → P.foot k (b k, γ k) x ∨ u.heap.size ≤ x) ∧ Okay t' pb pg) h1 h2 (fun t' u' pb pg q1 q2 q3 q4 => ⟨pb, pg, q1, q2, q3, q4⟩)) fun e a₁ u' q => by
    cases e with
    | normal =>
      obtain ⟨q1, pb, pg, q2, q3, q4, q5⟩ := q
      exact ⟨q1, pb, pg, q2, q3, q4, fun w' h' => hq _ _ _ _ q5 h'⟩
    | _ => exact q.elim
/-- A frame as a function. -/
def asFun (t : Array Value) (j : Nat) : Value := t.getD j undef
theorem ex_fun {t : Array Value} {φ : (Nat → Value) → Array Value} (h : t = φ (asFun t)) : ∃ f, t = φ f := ⟨_, h⟩
theorem cps_as {E : Env} {c : Code} {Q : E.ι → Exit → Array Value → World → Prop} {n : E.ι} {t : Array Value} {w : World} (h : ∀ t', t' = t → cps E c Q n t' w) : cps E c Q n t w := h t rfl
/-- A read of what stands. -/
theorem readO {ops : Array Oper} {i : Nat} {o : Oper} {l : List Nat} {t : Array Value} {Qr : TIx (P.client base m old) → Array Value → World → Prop} (h : TK (P.client base m old) Wg s k n a (b, γ) F w) (v : Value) (ho : ops[i]? = some o) (hok : thrOk o.op = true) (hw : Region.wanted o (yielded ops t) = true)
    (hrun : ∀ u, old.In u → (execOp (⟨t, []⟩ : Act).eval o).run Try.prog u = .ok (.value v) u)
    (hq : ∀ w', TK (P.client base m old) Wg s k n a (b, γ) F w' → cpsR (envT (P.client base m old).core.spec Wg (WgL Wg) s) ops l Qr n ((⟨t, []⟩ : Act).put o.dst v).tmps w') : cpsR (envT (P.client base m old).core.spec Wg (WgL Wg) s) ops (i :: l) Qr n t w :=
  readTK h v ho hok hw (fun u _ h2 => hrun u h2.stat) hq
end
end Go.Proofs.Ytdedmmjmiakidaa
