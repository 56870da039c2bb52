/- Marks and SameMarks, walked alone. -/
import Derived.Test.YtdedmmjmiakidaaNote
namespace Go.Proofs.Ytdedmmjmiakidaa
open Go.RowKit
set_option linter.unusedVariables false

theorem mks_get0 (L : List (Int × Int)) (k : Nat) (h : k < L.length) : (mks L)[2 * k]? = some (.int .u8 L[k].1) := by
  induction L generalizing k with
  | nil => simp at h
  | cons a l ih =>
    cases k with
    | zero => rfl
    | succ k =>
      have := ih k (by simpa using h)
      rw [show 2 * (k + 1) = 2 * k + 1 + 1 from by omega]
      simpa [mks] using this
theorem mks_get1 (L : List (Int × Int)) (k : Nat) (h : k < L.length) : (mks L)[2 * k + 1]? = some (.int .i64 L[k].2) := by
  induction L generalizing k with
  | nil => simp at h
  | cons a l ih =>
    cases k with
    | zero => rfl
    | succ k =>
      have := ih k (by simpa using h)
      rw [show 2 * (k + 1) + 1 = 2 * k + 1 + 1 + 1 from by omega]
      simpa [mks] using this

set_option maxHeartbeats 800000 in
theorem sameMarks_c (va vb : Value) (La Lb : List (Int × Int)) (w : World) (ha : w.ownsRow 0 118 2 va La.length (mks La)) (hb : w.ownsRow 0 118 2 vb Lb.length (mks Lb)) (hla : La.length < 1000000) :
    Calls Try.prog 44 #[va, vb] w fun e w' => e = .returned (.bool (decide (La = Lb))) ∧ Sm (fun _ => False) w w' := by
  obtain ⟨aa, ca, rfl⟩ := own_form0 ha
  obtain ⟨ab, cb, rfl⟩ := own_form0 hb
  by_cases hne : La.length = Lb.length
  · have hlt : (((La.length : Nat) : Int) != ((Lb.length : Nat) : Int)) = false := by simp [hne]
    have HNE := Lib.hid hne
    clear hne
    go_enter Try.func44, Try.ntmps44
    go_wp2
    clear hlt
    go_loopw [5] (fun s5 wr => ∃ k : Nat, k ≤ La.length ∧ s5 = .int .i64 k ∧ Hid (La.take k = Lb.take k) ∧ Sm (fun _ => False) w wr) (fun s5 _ => La.length - (intOf s5).toNat)
    case atStart => exact ⟨0, by omega, rfl, Lib.hid (by simp), Sm.refl _ _⟩
    case round =>
      obtain ⟨k, hk, rfl, hT, hS⟩ := hrel
      by_cases hlt : k < La.length
      · have hltb : k < Lb.length := by rw [← HNE.out]; exact hlt
        obtain ⟨ga, ca', hfa⟩ := own_form ha (by omega)
        obtain ⟨gb, cb', hfb⟩ := own_form hb (by omega)
        simp only [Value.slice.injEq] at hfa hfb
        obtain ⟨rfl, -, -⟩ := hfa
        obtain ⟨rfl, -, -⟩ := hfb
        have ha' := own_sm ha hS (fun _ _ h => h)
        have hb' := own_sm hb hS (fun _ _ h => h)
        have A0 : wr.cell? ⟨ga, k * 2, none⟩ = some (.int .u8 La[k].1) := by
          rw [ha'.cellAt (k * 2) (by omega), Nat.mul_comm]; exact mks_get0 La k hlt
        have A1 : wr.cell? ⟨ga, k * 2 + 1, none⟩ = some (.int .i64 La[k].2) := by
          rw [ha'.cellAt (k * 2 + 1) (by omega), Nat.mul_comm]; exact mks_get1 La k hlt
        have B0 : wr.cell? ⟨gb, k * 2, none⟩ = some (.int .u8 Lb[k].1) := by
          rw [hb'.cellAt (k * 2) (by omega), Nat.mul_comm]; exact mks_get0 Lb k hltb
        have B1 : wr.cell? ⟨gb, k * 2 + 1, none⟩ = some (.int .i64 Lb[k].2) := by
          rw [hb'.cellAt (k * 2 + 1) (by omega), Nat.mul_comm]; exact mks_get1 Lb k hltb
        obtain ⟨x0, hx0⟩ : ∃ x, x = La[k].1 := ⟨_, rfl⟩
        obtain ⟨x1, hx1⟩ : ∃ x, x = La[k].2 := ⟨_, rfl⟩
        obtain ⟨y0, hy0⟩ : ∃ x, x = Lb[k].1 := ⟨_, rfl⟩
        obtain ⟨y1, hy1⟩ : ∃ x, x = Lb[k].2 := ⟨_, rfl⟩
        rw [← hx0] at A0
        rw [← hx1] at A1
        rw [← hy0] at B0
        rw [← hy1] at B1
        have X0 := Lib.hid hx0
        have X1 := Lib.hid hx1
        have Y0 := Lib.hid hy0
        have Y1 := Lib.hid hy1
        have HA := Lib.hid ha
        have HB := Lib.hid hb
        clear hx0 hx1 hy0 hy1 ha hb ha' hb'
        have i0 : (0 : Int) ≤ (k : Int) := by omega
        have i1 : (k : Int) < (La.length : Int) := by omega
        have i2 : (k : Int) < (Lb.length : Int) := by omega
        have hsucc : x0 = y0 → x1 = y1 → Hid (La.take (k + 1) = Lb.take (k + 1)) := by
          intro e0 e1
          have h := hT.out
          apply Lib.hid
          rw [List.take_succ_eq_append_getElem hlt, List.take_succ_eq_append_getElem hltb, h]
          have : La[k] = Lb[k] := Prod.ext (by rw [← X0.out, ← Y0.out, e0]) (by rw [← X1.out, ← Y1.out, e1])
          rw [this]
        have hdiff : ¬ (x0 = y0 ∧ x1 = y1) → decide (La = Lb) = false := by
          intro hn
          rw [decide_eq_false_iff_not]
          intro e
          subst e
          exact hn ⟨by rw [X0.out, Y0.out], by rw [X1.out, Y1.out]⟩
        have HSU := Lib.hid hsucc
        have HDI := Lib.hid hdiff
        clear hsucc hdiff
        by_cases e0 : x0 = y0
        · by_cases e1 : x1 = y1
          · have E0 := Lib.hid e0
            have E1 := Lib.hid e1
            rw [← e0] at B0
            rw [← e1] at B1
            clear e0 e1
            go_wp2
            go_quiet (fail)
            go_wp2
            go_roundw
            case rel => exact ⟨k + 1, by omega, by go_num, HSU.out E0.out E1.out, hS.drewN _⟩
            case measure => simp [intOf]; omega
          · have E1 : (x1 == y1) = false := by simp [e1]
            have E0 := Lib.hid e0
            have EN := Lib.hid e1
            rw [← e0] at B0
            clear e0 e1
            go_wp2
            go_quiet (fail)
            go_wp2
            go_ret
            exact ⟨ret_bool (HDI.out (fun h => EN.out h.2)).symm, hS.drewN _⟩
        · have E0 : (x0 == y0) = false := by simp [e0]
          have EN := Lib.hid e0
          clear e0
          go_wp2
          go_quiet (fail)
          go_wp2
          go_ret
          exact ⟨ret_bool (HDI.out (fun h => EN.out h.1)).symm, hS.drewN _⟩
      · have hk' : k = La.length := by omega
        have HK := Lib.hid hk'
        have i1 : ¬ ((k : Int) < (La.length : Int)) := by omega
        clear hk'
        go_wp2
        go_ret
        refine ⟨?_, hS⟩
        have : La = Lb := by
          have h := hT.out
          rw [HK.out, List.take_length, HNE.out, List.take_length] at h
          exact h
        exact ret_bool (decide_eq_true this).symm
  · have hlt : (((La.length : Nat) : Int) != ((Lb.length : Nat) : Int)) = true := by simp; omega
    have hd : decide (La = Lb) = false := by
      rw [decide_eq_false_iff_not]
      exact fun e => hne (by rw [e])
    rw [hd]
    clear hne
    go_enter Try.func44, Try.ntmps44
    go_wp2
    go_ret
    exact ⟨rfl, Sm.refl _ _⟩
set_option maxRecDepth 100000 in
set_option maxHeartbeats 800000 in
theorem clone_c (v : Value) (L : List (Int × Int)) (b0 : Nat) (w : World) (hv : w.ownsRow b0 118 2 v L.length (mks L)) (hL : L.length < 1000000) :
    Calls Try.prog 51 #[v] w fun e w' => ∃ v', e = .returned v' ∧ w'.ownsRow w.heap.size 118 2 v' L.length (mks L) ∧ Sm (fun _ => False) w w' := by
  obtain ⟨i0, hi, hz0, hz1, hz2⟩ := info_parts info_mark
  obtain ⟨hl, hv | ⟨g, cap, cur, rfl, hg, hh, hn, hc, hsz, ht⟩⟩ := hv
  · obtain ⟨rfl, h0⟩ := hv
    have hq := fun wx => Lib.run_eql_slice_nil (P := Try.prog) wx 63 118 none 0 0 0 0 Try.underlying63
    go_enter Try.func51, Try.ntmps51
    go_wp2
    go_ret
    have e : L = [] := List.eq_nil_of_length_eq_zero h0
    subst e
    exact ⟨_, rfl, World.ownsRow_nil _ _ _ _, Sm.refl _ _⟩
  · have hq := fun wx => Lib.run_eql_slice_nil (P := Try.prog) wx 63 118 (some ⟨g, 0, none⟩) L.length cap 0 0 Try.underlying63
    have HO : Hid (w.ownsRow b0 118 2 (.slice (some ⟨g, 0, none⟩) L.length cap) L.length (mks L)) := ⟨hl, .inr ⟨g, cap, cur, rfl, hg, hh, hn, hc, hsz, ht⟩⟩
    have Hi := Lib.hid hi
    have Hz0 := Lib.hid hz0
    have Hz1 := Lib.hid hz1
    have Hz2 := Lib.hid hz2
    clear hl hg hh hn hc hsz ht hi hz0 hz1 hz2
    go_enter Try.func51, Try.ntmps51
    have HC : Hid (∀ (j : Nat) (u : Value), (mks L)[j]? = some u → (w.alloc (Obj.cells #[] 118)).cell? ((⟨g, 0, none⟩ : Addr).add j) = some u) := fun j u hj => (HO.out.alloc _).cells rfl j u hj
    have HW : Hid ((w.alloc (Obj.cells #[] 118)).ownsRow w.heap.size 118 2 (.slice (some ⟨w.heap.size, 0, none⟩) 0 0) 0 []) := World.ownsRow_lit w #[] 0 (Nat.le_refl _) (by unfold maxLen; omega) rfl
    have hone : ∀ u ∈ mks L, u.oneCell' = true := by
      intro u hu
      simp only [mks, List.mem_flatMap] at hu
      obtain ⟨p, _, hp⟩ := hu
      simp at hp
      rcases hp with rfl | rfl <;> rfl
    have HON := Lib.hid hone
    clear hone
    go_wp2_with (at_builtin; refine wpList_append_own _ rfl (.tmp 5) (.tmp 6) 63 rfl w.heap.size 118 i0 (.agg #[.int .u8 0, .int .i64 0]) 2 16 Try.underlying63 Hi.out Hz0.out Hz1.out Hz2.out rfl (by decide) _ 0 [] rfl HW.out ⟨g, 0, none⟩ L.length cap (mks L) rfl (mks_len L) HC.out HON.out (by unfold maxLen; omega) (by omega) (by simp) ?_; intro v' w1 hown' hgrow _)
    go_ret
    simp only [Nat.zero_add, List.nil_append] at hown'
    exact ⟨v', rfl, hown', sm_alloc_grown hgrow (fun k e => by cases e; exact Nat.le_refl _)⟩
theorem marks_c (nb : Nat) (L : List (Int × Int)) (w : World) (h : Noted nb w L) (hL : L.length < 1000000) :
    Calls Try.prog 24 #[.pointer (some ⟨nb, 0, none⟩)] w fun e w' => ∃ v', e = .returned v' ∧ w'.ownsRow w.heap.size 118 2 v' L.length (mks L) ∧ Sm (fun _ => False) w w' := by
  obtain ⟨v, h1, h2⟩ := h
  have c0 : w.cell? ⟨nb, 0, none⟩ = some (.bool true) := h1.cell 0
  have c1 : w.cell? ⟨nb, 1, none⟩ = some v := h1.cell 1
  have H := Lib.hid (clone_c v L (nb + 1) w h2 hL)
  clear h2
  go_enter Try.func24, Try.ntmps24
  go_wp2_with fail
  refine H.out.mono ?_
  rintro e w' ⟨v', rfl, h3, h4⟩
  have H3 := Lib.hid h3
  have H4 := Lib.hid h4
  clear h3 h4
  go_wp2
  go_ret
  exact ⟨_, rfl, H3.out, H4.out⟩
end Go.Proofs.Ytdedmmjmiakidaa
