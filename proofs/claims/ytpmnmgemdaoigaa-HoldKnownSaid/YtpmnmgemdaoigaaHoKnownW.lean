/- HoldKnown: the walk. -/
import Derived.Test.YtpmnmgemdaoigaaHoN
namespace Go.Proofs.Ytpmnmgemdaoigaa
open Go.RowKit Go.MuLone
set_option linter.unusedVariables false
set_option linter.unusedSimpArgs false
def itW (k : Nat) : List Nat := k.rec (pinW (pinW words0 0) 0) (fun _ x => moveW x 2)
/-- What stands in memory while the Frees go on. -/
structure KS (h d g c p p3 : Nat) (cur : Array Value) (ws : List Nat) (w0 w : World) : Prop where
  hold : Row w h (holdC p3 d 0 (.slice (some ⟨g, 0, none⟩) 1 c)) 86
  pub : Row w p (pubC ⟨#[97]⟩ 1) 89
  kept : Row w g cur 94
  dom : Dom d 2 ws w
  sm : Sm (fun _ => False) w0 w
  new : w0.heap.size ≤ h ∧ w0.heap.size ≤ d ∧ w0.heap.size ≤ g
  one : 1 ≤ c ∧ cur[0]? = some (.pointer (some ⟨p, 0, none⟩)) ∧ cur[1]? = some (.int .u64 (1 : Nat))
theorem KS.step {h d g c p p3 : Nat} {cur : Array Value} {ws ws' : List Nat} {w0 w w' : World} (k : KS h d g c p p3 cur ws w0 w) (hd : Dom d 2 ws' w') (hr : Row w' h (holdC p3 d 0 (.slice (some ⟨g, 0, none⟩) 1 c)) 86) (hs : Sm (fun b => b = d ∨ b = h) w w') : KS h d g c p p3 cur ws' w0 w' := by
  have n1 := k.pub.ne k.dom.row (by decide)
  have n2 := k.pub.ne k.hold (by decide)
  have n3 := k.kept.ne k.dom.row (by decide)
  have n4 := k.kept.ne k.hold (by decide)
  refine ⟨hr, k.pub.sm hs (fun e => e.elim n1 n2), k.kept.sm hs (fun e => e.elim n3 n4), hd, ?_, k.new, k.one⟩
  exact (((k.sm.mono (F' := fun b => b = d ∨ b = h ∨ False) (fun b e => e.elim)).trans (hs.mono (fun b e => e.elim Or.inl (fun e => Or.inr (Or.inl e))))).mono' k.new.2.1).mono' k.new.1
theorem KS.dom' {h d g c p p3 : Nat} {cur : Array Value} {ws ws' : List Nat} {w0 w w' : World} (k : KS h d g c p p3 cur ws w0 w) (hd : Dom d 2 ws' w') (hs : Sm (fun b => b = d) w w') : KS h d g c p p3 cur ws' w0 w' :=
  k.step hd (k.hold.sm hs (k.hold.ne k.dom.row (by decide))) (hs.mono (fun b e => Or.inl e))
set_option maxRecDepth 100000 in
theorem keep_c {h d g c p p3 : Nat} {cur : Array Value} {w0 w : World} (k : Nat) (hk : k < 3) (H : KS h d g c p p3 cur (itW k) w0 w) :
    Calls Try.prog 15 #[.pointer (some ⟨h, 0, none⟩), .nilIface] w fun e w' => e = .returned (.tuple #[.slice none 0 0, .int .i64 0]) ∧ KS h d g c p p3 cur (itW (k + 1)) w0 w' := by
  have hx : (itW k).getD 0 0 < 18446744073709551615 ∧ (moveW (itW k) 2).getD 0 0 < 1 + 2 := by
    have : k = 0 ∨ k = 1 ∨ k = 2 := by omega
    rcases this with rfl | rfl | rfl <;> decide
  refine (hfree_c true h p3 d 2 g c p 1 1 _ cur (itW k) hx.1 (by decide) w (by simp only [if_true]; exact hx.2) (by omega) H.hold H.pub H.kept H.one.1 H.one.2.1 H.one.2.2 H.dom).mono ?_
  rintro e w' ⟨o, rfl, ho, hd, hr, hs⟩
  obtain rfl : o = .slice none 0 0 := ho
  exact ⟨rfl, H.step hd hr (hs.mono (fun b e => by rcases e with e | e | e; exact .inl e; exact .inr e; exact absurd e.1 (by decide)))⟩
set_option maxRecDepth 100000 in
theorem del_c {h d g c p p3 : Nat} {cur : Array Value} {ws : List Nat} {w0 w : World} (hw : ws = unpinW (unpinW (itW 3) 0) 0) (H : KS h d g c p p3 cur ws w0 w) :
    Calls Try.prog 15 #[.pointer (some ⟨h, 0, none⟩), .nilIface] w fun e w' => ∃ q cq o ws', e = .returned (.tuple #[.slice (some ⟨q, 0, none⟩) 1 cq, .int .i64 0]) ∧ w'.cell? ⟨q, 0, none⟩ = some (.int .u64 (1 : Nat)) ∧ (∃ cur', Row w' q cur' 40) ∧ Row w' h (holdC p3 d 0 o) 86 ∧ Dom d 2 ws' w' ∧ Sm (fun _ => False) w0 w' := by
  have hx : ws.getD 0 0 < 18446744073709551615 ∧ 1 + 2 ≤ (moveW ws 2).getD 0 0 ∧ (moveW ws 2).getD 0 0 < 100 := by rw [hw]; decide
  refine (hfree_c false h p3 d 2 g c p 1 1 _ cur ws hx.1 (by decide) w (by simp only [Bool.false_eq_true, if_false]; exact hx.2.1) (by omega) H.hold H.pub H.kept H.one.1 H.one.2.1 H.one.2.2 H.dom).mono ?_
  rintro e w' ⟨o, rfl, ho, hd, hr, hs⟩
  obtain ⟨q, cq, rfl, hq, hqr⟩ := own_num ho
  refine ⟨q, cq, _, _, rfl, hq, hqr, hr, hd, ?_⟩
  exact ((((H.sm.mono (F' := fun b => b = d ∨ b = h ∨ b = g ∨ False) (fun b e => e.elim)).trans (hs.mono (fun b e => by rcases e with e | e | e; exact .inl e; exact .inr (.inl e); exact .inr (.inr (.inl e.2))))).mono' H.new.2.1).mono' H.new.1).mono' H.new.2.2
set_option maxRecDepth 100000 in
set_option maxHeartbeats 1600000 in
theorem known_c (w : World) :
    Calls Try.prog 3 #[] w fun e w' => e = .returned (.bool true) ∧ Sm (fun _ => False) w w' := by
  go_enter Try.func3, Try.ntmps3
  go_upto_region 3 with fail
  obtain ⟨E, hE⟩ : ∃ E, E = w.heap.size := ⟨_, rfl⟩
  obtain ⟨w1, hw1⟩ : ∃ w1, w1 = w.alloc (.cells #[.pointer none, .pointer none, .int .i32 0, .int .u32 0, .slice none 0 0] 39) := ⟨_, rfl⟩
  rw [← hw1, ← hE]
  have HE : NoHold (.pointer (some ⟨E, 0, none⟩)) w1 := Or.inr ⟨E, rfl, by rw [hw1, hE]; exact (Row.new _ _ _).cell 1⟩
  have HN : NoHold (.pointer none) w1 := Or.inl rfl
  have HS1 := Lib.hid (show Sm (fun _ => False) w w1 by rw [hw1]; exact (Sm.refl _ _).alloc _)
  have HEh := Lib.hid HE
  have HNh := Lib.hid HN
  clear hw1 hE HE HN
  go_wp2_with fail
  refine (inow _ w1 HNh.out).mono ?_
  rintro e wx ⟨rfl, rfl⟩
  go_wp2_with fail
  refine (ienter _ w1 HNh.out).mono ?_
  rintro e wx ⟨rfl, rfl⟩
  go_wp2_with fail
  refine (iput _ w1 HNh.out).mono ?_
  rintro e wx ⟨rfl, rfl⟩
  go_wp2_with fail
  refine (itry _ w1 HNh.out).mono ?_
  rintro e wx ⟨rfl, rfl⟩
  go_wp2_with fail
  refine (ifree _ w1 HNh.out).mono ?_
  rintro e wx ⟨rfl, rfl⟩
  go_wp2_with fail
  refine (inow _ w1 HEh.out).mono ?_
  rintro e wx ⟨rfl, rfl⟩
  go_wp2_with fail
  refine (iput _ w1 HEh.out).mono ?_
  rintro e wx ⟨rfl, rfl⟩
  go_wp2_with fail
  refine (iold _ w1 HNh.out).mono ?_
  rintro e wx ⟨rfl, rfl⟩
  go_wp2_with fail
  refine (iold _ w1 HEh.out).mono ?_
  rintro e wx ⟨rfl, rfl⟩
  go_wp2_with fail
  refine (ileave _ w1 HNh.out).mono ?_
  rintro e wx ⟨rfl, rfl⟩
  go_wp2_with fail
  refine (ileave _ w1 HEh.out).mono ?_
  rintro e wx ⟨rfl, rfl⟩
  go_wp2_with fail
  refine (ikept _ w1 HNh.out).mono ?_
  rintro e wx ⟨rfl, rfl⟩
  go_wp2_with fail
  refine (ikept _ w1 HEh.out).mono ?_
  rintro e wx ⟨rfl, rfl⟩
  go_wp2_with fail
  refine (hnew_ok _ 2 (by omega) (by omega) w1).mono ?_
  rintro e w2 ⟨h, p, d, rfl, hs2, hd1, hdp, hdh, hhp, hd2, hp2, hr2⟩
  have hz := HS1.out.size
  have HS2 := Lib.hid (HS1.out.trans hs2)
  clear HS1 hs2 HEh HNh
  go_wp2_with fail
  refine (henter_c h p d 2 0 _ _ 1 words0 0 (by omega) w2 hr2 hp2 hd2 ⟨by omega, by omega⟩ (by rfl)).mono ?_
  rintro e w3 ⟨rfl, hd3, hs3⟩
  have hr3 := hr2.sm hs3 (by omega)
  have hp3 := hp2.sm hs3 (by omega)
  have HS3 := Lib.hid (((HS2.out.mono (F' := fun b => b = d ∨ False) (fun b e => e.elim)).trans (hs3.mono (fun b e => Or.inl e))).mono' (by omega))
  clear hr2 hp2 hd2 hs3 HS2
  go_wp2_with fail
  refine (henter_pinned h p d 2 0 _ _ 0 (by omega) w3 hr3 hd3 (by rfl)).mono ?_
  rintro e w4 ⟨rfl, hd4, hs4⟩
  have hr4 := hr3.sm hs4 (by omega)
  have hp4 := hp3.sm hs4 (by omega)
  have HS4 := Lib.hid (((HS3.out.mono (F' := fun b => b = d ∨ False) (fun b e => e.elim)).trans (hs4.mono (fun b e => Or.inl e))).mono' (by omega))
  clear hr3 hp3 hd3 hs4 HS3
  go_wp2_with fail
  refine (hput_c h p d 2 _ _ 1 (by omega) _ w4 hr4 hp4 hd4).mono ?_
  rintro e w5 ⟨rfl, hs5, p3, o5, hr5, -, ho5⟩
  have hp5 := hp4.sm hs5 (fun e => hhp e.symm)
  have hd5 := hd4.sm hs5 (by omega)
  obtain ⟨g, c, cur, hbg, rfl, hg5, hc1, k0, k1⟩ := own_kept ho5
  have hgw : w.heap.size ≤ g := by have := HS4.out.size; omega
  have HK := Lib.hid (show KS h d g c p p3 cur (itW 0) w w5 from ⟨hr5, hp5, hg5, hd5, ((HS4.out.mono (F' := fun b => b = h ∨ False) (fun b e => e.elim)).trans (hs5.mono (fun b e => Or.inl e))).mono' (by omega), ⟨by omega, by omega, hgw⟩, hc1, k0, k1⟩)
  clear hs5 hr4 hp4 hd4 HS4 ho5 hr5 hp5 hd5 hg5 hc1 k0 k1 hgw hbg
  go_wp2_with fail
  go_loopw [36, 181] (fun s36 s181 wr => ∃ k : Nat, k ≤ 3 ∧ s36 = .int .i64 0 ∧ s181 = .int .i64 k ∧ Hid (KS h d g c p p3 cur (itW k) w wr)) (fun s36 s181 wr => 3 - (intOf s181).toNat)
  case atStart => exact ⟨0, by omega, rfl, rfl, HK⟩
  case round =>
    obtain ⟨k, hk3, rfl, rfl, HKk⟩ := hrel
    clear HK
    by_cases hk : k < 3
    · have hki : (k : Int) < 3 := by omega
      go_wp2_with fail
      refine (keep_c k hk HKk.out).mono ?_
      rintro e wz ⟨rfl, hks⟩
      have HKS := Lib.hid hks
      clear hks
      go_wp2_with fail
      have hpk : wrap64 ((k : Int) + 1) = ((k + 1 : Nat) : Int) := by unfold wrap64; omega
      have HPK := Lib.hid hpk
      clear hpk
      go_roundw
      case rel => exact ⟨k + 1, by omega, by first | rfl | go_num, by first | rw [HPK.out] | go_num, HKS⟩
      case measure => (try rw [HPK.out]); simp only [intOf]; omega
    · obtain rfl : k = 3 := by omega
      go_wp2_with fail
      refine (hleave_c h p3 d 2 0 _ _ 0 (by omega) _ HKk.out.hold HKk.out.dom).mono ?_
      rintro e w6 ⟨rfl, hd6, hs6⟩
      have HK6 := Lib.hid (HKk.out.dom' hd6 hs6)
      clear hd6 hs6 HKk
      go_wp2_with fail
      refine (hleave_c h p3 d 2 0 _ _ 0 (by omega) _ HK6.out.hold HK6.out.dom).mono ?_
      rintro e w7 ⟨rfl, hd7, hs7⟩
      have HK7 := Lib.hid (HK6.out.dom' hd7 hs7)
      clear hd7 hs7 HK6
      go_wp2_with fail
      refine (del_c rfl HK7.out).mono ?_
      rintro e w8 ⟨q, cq, o8, ws8, rfl, hq, ⟨cur8, hqr⟩, hr8, hd8, hs8⟩
      have HD8 := Lib.hid hd8
      have HR8 := Lib.hid hr8
      have HS8 := Lib.hid hs8
      clear HK7 hd8 hr8 hs8
      go_wp2_with fail
      refine (hnew_bad _ 0 (by omega) w8).mono ?_
      rintro e wx ⟨rfl, rfl⟩
      go_wp2_with fail
      refine (hnew_bad _ 17 (by omega) w8).mono ?_
      rintro e wx ⟨rfl, rfl⟩
      go_wp2_with fail
      refine (henter_range h p3 d 2 0 _ _ 2 (by omega) w8 HR8.out HD8.out).mono ?_
      rintro e wx ⟨rfl, rfl⟩
      go_wp2_with fail
      refine (works_c w8).mono ?_
      rintro e w9 ⟨rfl, hs9⟩
      have HS9 := Lib.hid (HS8.out.trans hs9)
      clear hs9 HS8
      go_wp2_with fail
      go_ret
      exact ⟨rfl, HS9.out⟩
theorem known_w (w : World) :
    Calls Try.prog 3 #[] w fun e w' => e = .returned (.bool true) ∧ Below w.heap.size w w' :=
  (known_c w).mono fun e w' k => ⟨k.1, k.2.below (Nat.le_refl _) (fun _ h => h.elim)⟩
end Go.Proofs.Ytpmnmgemdaoigaa
