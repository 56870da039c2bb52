/- The reference's programs for a domain: Move. -/
import Derived.Test.YtokoniaoknnggaaProA
namespace Go.Proofs.Ytokoniaoknnggaa
open Go.RowKit
set_option linter.unusedVariables false
set_option linter.unusedSimpArgs false

def moveI (n i : Nat) : List In := [⟨1, 0, 19, 9, 0, 0, 1 + i⟩, ⟨19, 0, 19, 9, 0, 0, 4 * i + 3 + 4⟩, ⟨19, 0, 19, 17, 0, 0, 4 * i + 3 + 4⟩, ⟨18, 0, 0, 0, 0, 0, 3 + 4 * n + 4⟩]
def moveH : List In := [⟨6, 0, 0, 0, 0, 0, 0⟩, ⟨6, 0, 1, 0, 0, 0, 0⟩, ⟨1, 0, 17, 9, 0, 0, 0⟩]
def moveT (n : Nat) : List In := [⟨8, 0, 18, 17, 9, 0, 1⟩, ⟨5, 0, 1, 9, 17, 18, 0⟩, ⟨19, 0, 1, 9, 0, 0, 3 + 4 * n + 4⟩, ⟨7, 0, 0, 18, 0, 0, 0⟩]
def moveS (n : Nat) : Nat → List In
  | 0 => moveH
  | i + 1 => moveS n i ++ moveI n i
def moveP (n : Nat) : List In := moveS n n ++ moveT n
theorem moveS_len (n : Nat) : ∀ i, (moveS n i).length = 4 * i + 3
  | 0 => rfl
  | i + 1 => by
    simp [moveS, moveS_len n i, moveI]
    omega
set_option maxRecDepth 100000 in
set_option maxHeartbeats 6400000 in
theorem moveCode_c (n : Nat) (hn : 0 < n ∧ n ≤ 16) (w : World) : Calls Try.prog 65 #[.int .i64 0, .int .i64 (n : Int), .int .i64 0, .int .i64 0, .int .i64 1] w (CodeEnd (moveP n) w) := by
  obtain ⟨hn0, hn1⟩ := hn
  obtain ⟨ii, hii, hi0, hi1, hi2⟩ := info_parts info_instr
  have HI := Lib.hid (show Try.prog.info? 161 = some ii ∧ ii.zero = some (.agg zeroI) ∧ ii.size = 7 ∧ ii.bytes = 56 from ⟨hii, hi0, hi1, hi2⟩)
  have HH := Lib.hid (code_one (w := w) (l := moveH) (c := (flatI moveH).toArray) (by simp) (by decide))
  clear hii hi0 hi1 hi2
  go_enter Try.func65, Try.ntmps65
  go_upto_block 0 with fail
  go_cut [13] from 14 (fun s13 wc => ∃ (a : Option Addr) (c : Nat), s13 = .slice a (moveS n n).length c ∧ Hid (wc.ownsRow w.heap.size 161 7 (.slice a (moveS n n).length c) (moveS n n).length (flatI (moveS n n)) ∧ Sm (fun _ => False) w wc))
  case first =>
    go_wp2_with fail
    go_loopw [13, 14] (fun s13 s14 wr => ∃ (i : Nat) (a : Option Addr) (c : Nat), i ≤ n ∧ s13 = .slice a (moveS n i).length c ∧ s14 = .int .i64 i ∧ Hid (wr.ownsRow w.heap.size 161 7 (.slice a (moveS n i).length c) (moveS n i).length (flatI (moveS n i)) ∧ Sm (fun _ => False) w wr)) (fun s13 s14 wr => n - (intOf s14).toNat)
    case atStart =>
      obtain ⟨cd, e1, e2, e3⟩ := HH.out
      cases e1
      exact ⟨0, _, _, Nat.zero_le _, rfl, rfl, Lib.hid ⟨e2, e3⟩⟩
    case round =>
      obtain ⟨i, a, c, hi, rfl, rfl, HINV⟩ := hrel
      by_cases hlt : i < n
      · have j1 : (i : Int) < (n : Int) := by omega
        have k1 : (0 : Int) ≤ (i : Int) := Int.natCast_nonneg _
        have hL := moveS_len n i
        obtain ⟨LL, hLL⟩ : ∃ LL, LL = (moveS n i).length := ⟨_, rfl⟩
        rw [← hLL] at hL
        have HLL := Lib.hid hLL
        rw [← hLL] at HINV ⊢
        subst hL
        obtain ⟨ho, ks⟩ := HINV.out
        have HO := Lib.hid ho
        have HK := Lib.hid ks
        have HBD := Lib.hid (show (4 * i + 3) + 4 ≤ maxLen ∧ ((4 * i + 3) + 4) * 56 ≤ 140737488355328 from ⟨by unfold maxLen; omega, by omega⟩)
        have HZ := Lib.hid (show w.heap.size ≤ wr.heap.size from ks.size)
        clear ho ks hLL
        go_wp2_with (at_builtin; refine wpList_append_own_at _ rfl (.tmp 43) (.tmp 55) 44 rfl w.heap.size 161 ii (.agg zeroI) 7 56 Try.underlying44 HI.out.1 HI.out.2.1 HI.out.2.2.1 HI.out.2.2.2 rfl (by decide) _ (4 * i + 3) (flatI (moveS n i)) rfl (HO.out.alloc _) ⟨wr.heap.size, 0, none⟩ 4 4 (flatI (moveI n i)) (by simp [Act.eval, Act.put]) rfl (new_cells wr (flatI (moveI n i)) 161) (flatI_one _) HBD.out.1 HBD.out.2 (by have := HZ.out; simp; omega) ?_)
        intro v2 w2 hown2 hg2 _ _
        obtain ⟨a2, c2, hv2⟩ := own_form0 hown2
        subst hv2
        have e4 : (4 * i + 3) + 4 = (moveS n (i + 1)).length := by rw [moveS_len]; omega
        have HN := Lib.hid (show w2.ownsRow w.heap.size 161 7 (.slice a2 (moveS n (i + 1)).length c2) (moveS n (i + 1)).length (flatI (moveS n (i + 1))) ∧ Sm (fun _ => False) w w2 from
          ⟨by rw [← e4]; show w2.ownsRow _ _ _ _ _ (flatI (moveS n i ++ moveI n i)); rw [flatI_app]; exact hown2, (((HK.out.mono (F' := fun b => (Value.slice a (4 * i + 3) c).ownBlock = some b) (fun _ h => h.elim)).trans ((Sm.refl _ _).alloc _)).trans (sm_grown hg2 (fun b e => e))).new (fun b hb => (HO.out.lt b hb).1)⟩)
        have HE4 := Lib.hid e4
        clear hown2 hg2 e4
        go_wp2_with fail
        go_roundw
        case rel => exact ⟨i + 1, a2, c2, hlt, by first | rfl | rw [← HE4.out], by first | rfl | go_num, HN⟩
        case measure => simp only [intOf]; omega
      · have hi' : i = n := by omega
        subst hi'
        have j1 : ¬ ((i : Nat) : Int) < (i : Int) := by omega
        go_wp2_with fail
        go_meet
        case rel => exact ⟨a, c, rfl, HINV⟩
  case rest =>
    obtain ⟨a, c, rfl, HINV⟩ := hcut
    have hL := moveS_len n n
    obtain ⟨LL, hLL⟩ : ∃ LL, LL = (moveS n n).length := ⟨_, rfl⟩
    rw [← hLL] at hL
    have HLL := Lib.hid hLL
    rw [← hLL] at HINV ⊢
    subst hL
    obtain ⟨ho, ks⟩ := HINV.out
    have HO := Lib.hid ho
    have HK := Lib.hid ks
    have HBD := Lib.hid (show (4 * n + 3) + 4 ≤ maxLen ∧ ((4 * n + 3) + 4) * 56 ≤ 140737488355328 from ⟨by unfold maxLen; omega, by omega⟩)
    have HZ := Lib.hid (show w.heap.size ≤ wc.heap.size from ks.size)
    clear ho ks hLL HH
    go_wp2_with (at_builtin; refine wpList_append_own_at _ rfl (.tmp 57) (.tmp 67) 44 rfl w.heap.size 161 ii (.agg zeroI) 7 56 Try.underlying44 HI.out.1 HI.out.2.1 HI.out.2.2.1 HI.out.2.2.2 rfl (by decide) _ (4 * n + 3) (flatI (moveS n n)) rfl (HO.out.alloc _) ⟨wc.heap.size, 0, none⟩ 4 4 (flatI (moveT n)) (by simp [Act.eval, Act.put]) rfl (new_cells wc (flatI (moveT n)) 161) (flatI_one _) HBD.out.1 HBD.out.2 (by have := HZ.out; simp; omega) ?_)
    intro v2 w2 hown2 hg2 _ _
    have HN := Lib.hid (show CodeEnd (moveP n) w (.returned v2) w2 from
      ⟨v2, rfl, by
        have e5 : (moveP n).length = (4 * n + 3) + 4 := by
          show (moveS n n ++ moveT n).length = _
          rw [List.length_append, moveS_len]
          rfl
        rw [e5]
        show w2.ownsRow _ _ _ _ _ (flatI (moveS n n ++ moveT n))
        rw [flatI_app]
        exact hown2, (((HK.out.mono (F' := fun b => (Value.slice a (4 * n + 3) c).ownBlock = some b) (fun _ h => h.elim)).trans ((Sm.refl _ _).alloc _)).trans (sm_grown hg2 (fun b e => e))).new (fun b hb => (HO.out.lt b hb).1)⟩)
    clear hown2 hg2
    go_wp2_with fail
    go_ret
    exact HN.out
end Go.Proofs.Ytokoniaoknnggaa
