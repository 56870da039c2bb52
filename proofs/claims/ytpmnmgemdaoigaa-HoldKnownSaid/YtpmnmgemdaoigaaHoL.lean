/- hold: works. -/
import Derived.Test.YtpmnmgemdaoigaaHoK
namespace Go.Proofs.Ytpmnmgemdaoigaa
open Go.RowKit Go.MuLone
set_option linter.unusedVariables false
set_option linter.unusedSimpArgs false
theorem own_kept {w : World} {o : Value} {p E : Nat} {B : Nat} (h : w.ownsRow B 94 2 o 1 (keptC p E)) : ∃ g c cur, B ≤ g ∧ o = .slice (some ⟨g, 0, none⟩) 1 c ∧ Row w g cur 94 ∧ 1 ≤ c ∧ cur[0]? = some (.pointer (some ⟨p, 0, none⟩)) ∧ cur[1]? = some (.int .u64 (E : Int)) := by
  obtain ⟨h1, h2⟩ := h
  rcases h2 with h2 | ⟨b, cap, cu, hv, hb, hh, r1, r2, r3, r4⟩
  · exact absurd h2.2 (by decide)
  · refine ⟨b, cap, cu, hb, hv, hh, r1, ?_, ?_⟩
    · have : (cu.toList.take (1 * 2))[0]? = some (.pointer (some ⟨p, 0, none⟩)) := by rw [r4]; rfl
      simpa using this
    · have : (cu.toList.take (1 * 2))[1]? = some (.int .u64 (E : Int)) := by rw [r4]; rfl
      simpa using this
theorem own_num {w : World} {o : Value} {v : Nat} (h : w.ownsRow 0 40 1 o 1 [.int .u64 (v : Int)]) : ∃ g c, o = .slice (some ⟨g, 0, none⟩) 1 c ∧ w.cell? ⟨g, 0, none⟩ = some (.int .u64 (v : Int)) ∧ ∃ cur, Row w g cur 40 := by
  obtain ⟨h1, h2⟩ := h
  rcases h2 with h2 | ⟨b, cap, cu, hv, hb, hh, r1, r2, r3, r4⟩
  · exact absurd h2.2 (by decide)
  · refine ⟨b, cap, hv, ?_, cu, hh⟩
    have : (cu.toList.take (1 * 1))[0]? = some (.int .u64 (v : Int)) := by rw [r4]; rfl
    have hx : cu[0]? = some (.int .u64 (v : Int)) := by simpa using this
    exact (Row.cell (T := 40) hh 0).trans hx
set_option maxRecDepth 100000 in
set_option maxHeartbeats 800000 in
theorem works_c (w : World) :
    Calls Try.prog 17 #[] w fun e w' => e = .returned (.bool true) ∧ Sm (fun _ => False) w w' := by
  have HM1 := Lib.hid (show (moveW words0 2).getD 0 0 = 2 by rfl)
  have HM2 := Lib.hid (show (moveW (moveW words0 2) 2).getD 0 0 = 3 by rfl)
  go_enter Try.func17, Try.ntmps17
  go_wp2_with fail
  refine (hnew_ok _ 2 (by omega) (by omega) w).mono ?_
  rintro e w1 ⟨h, p, d, rfl, hs1, hd1, hdp, hdh, hhp, hd, hp, hr⟩
  have HS1 := Lib.hid hs1
  clear hs1
  go_wp2_with fail
  refine (hnow_c h p d 0 _ _ 1 w1 hr hp).mono ?_
  rintro e w2 ⟨rfl, hs2⟩
  have hr2 := hr.sm hs2 (fun h => h)
  have hp2 := hp.sm hs2 (fun h => h)
  have hd2 := hd.sm hs2 (fun h => h)
  have HS2 := Lib.hid (HS1.out.trans hs2)
  clear hr hp hd hs2 HS1
  go_wp2_with fail
  refine (hput_c h p d 2 _ _ 1 (by omega) words0 w2 hr2 hp2 hd2).mono ?_
  rintro e w3 ⟨rfl, hs3, p3, o3, hr3, hq3, ho3⟩
  have hp3 := hp2.sm hs3 (fun e => hhp e.symm)
  have hd3 := hd2.sm hs3 (fun e => by omega)
  obtain ⟨g, c, cur, hbg, rfl, hg3, hc1, k0, k1⟩ := own_kept ho3
  have hgw : w.heap.size ≤ g := by have := HS2.out.size; omega
  have hhw : w.heap.size ≤ h := by omega
  have HS3 := Lib.hid (((HS2.out.mono (F' := fun b => b = h ∨ False) (fun b e => Or.inr e)).trans (hs3.mono (fun b e => Or.inl e))).mono' hhw)
  clear hs3 hr2 hp2 hd2 HS2 ho3
  go_wp2_with fail
  refine (hfree_c true h p3 d 2 g c p 1 1 _ cur words0 (by decide) (by decide) w3 (by simp only [if_true]; rw [HM1.out]; decide) (by rw [HM1.out]; decide) hr3 hp3 hg3 hc1 k0 k1 hd3).mono ?_
  rintro e w4 ⟨o4, rfl, ho4, hd4, hr4, hs4⟩
  obtain rfl : o4 = .slice none 0 0 := ho4
  have hgd := hg3.ne hd3.row (by decide)
  have hgh := hg3.ne hr3 (by decide)
  have hpd := hp3.ne hd3.row (by decide)
  have hph := hp3.ne hr3 (by decide)
  have hg4 := hg3.sm hs4 (fun e => by rcases e with e | e | e; exact hgd e; exact hgh e; exact absurd e.1 (by decide))
  have hp4 := hp3.sm hs4 (fun e => by rcases e with e | e | e; exact hpd e; exact hph e; exact absurd e.1 (by decide))
  have HS4 := Lib.hid ((((HS3.out.mono (F' := fun b => b = h ∨ b = d ∨ False) (fun b e => e.elim)).trans (hs4.mono (fun b e => by rcases e with e | e | e; exact .inr (.inl e); exact .inl e; exact absurd e.1 (by decide)))).mono' hhw).mono' hd1)
  clear hs4 hr3 hp3 hg3 hd3 HS3
  go_wp2_with fail
  refine (hfree_c false h p3 d 2 g c p 1 1 _ cur (moveW words0 2) (by rw [HM1.out]; decide) (by decide) w4 (by simp only [Bool.false_eq_true, if_false]; rw [HM2.out]; decide) (by rw [HM2.out]; decide) hr4 hp4 hg4 hc1 k0 k1 hd4).mono ?_
  rintro e w5 ⟨o5, rfl, ho5, hd5, hr5, hs5⟩
  obtain ⟨q, cq, rfl, hq5, -⟩ := own_num ho5
  have HS5 := Lib.hid (((((HS4.out.mono (F' := fun b => b = h ∨ b = d ∨ b = g ∨ False) (fun b e => e.elim)).trans (hs5.mono (fun b e => by rcases e with e | e | e; exact .inr (.inl e); exact .inl e; exact .inr (.inr (.inl e.2))))).mono' hhw).mono' hd1).mono' hgw)
  clear hs5 hr4 hp4 hg4 hd4 HS4 ho5 hd5 hr5
  go_wp2_with fail
  go_ret
  exact ⟨rfl, HS5.out⟩
end Go.Proofs.Ytpmnmgemdaoigaa
