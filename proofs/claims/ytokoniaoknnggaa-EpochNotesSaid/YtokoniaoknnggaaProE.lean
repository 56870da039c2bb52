/- The call of the statement, as a program in memory. -/
import Derived.Test.YtokoniaoknnggaaProD
namespace Go.Proofs.Ytokoniaoknnggaa
open Go.RowKit
set_option linter.unusedVariables false
set_option linter.unusedSimpArgs false

def progQ (n : Nat) (s : Int) (ep : Nat) : Nat → List In
  | 0 => nowP
  | 1 => if badS n s then failsP 1 else pinP s.toNat ++ tell2
  | 2 => if badS n s then failsP 0 else unpinP s.toNat ++ tell1
  | 3 => moveP n ++ tell2
  | _ => safeP ep
def progF (n : Nat) (x : DoV) : List In := progQ n x.2.1 x.2.2 (wi x.1 5)
/-- A program's end, handed on in the cell of a result. -/
theorem prog_on {l : List In} {w w2 w3 : World} {P : Nat} {cd : Value} (hP : P = w.heap.size + 1) (hlt : w.heap.size + 1 < w2.heap.size) (k2 : Sm (fun _ => False) w w2) (hr : Row w2 P #[.slice none 0 0, .slice none 0 0] 46) (ho : w3.ownsRow w2.heap.size 161 7 cd l.length (flatI l)) (k3 : Sm (fun _ => False) w2 w3) :
    Row w3 P #[.slice none 0 0, .slice none 0 0] 46 ∧ Row (w3.setRow P #[cd, .slice none 0 0]) P #[cd, .slice none 0 0] 46 ∧ ProgEnd l w (.returned (.agg #[cd, .slice none 0 0])) (w3.setRow P #[cd, .slice none 0 0]) := by
  have hr3 := hr.sm k3 (fun h => h)
  have kr : Sm (fun b => b = P) w3 (w3.setRow P #[cd, .slice none 0 0]) := ⟨rfl, rfl, rfl, by simp [World.setRow], fun k hk hf => setRow_other _ _ k _ hf⟩
  refine ⟨hr3, hr3.setRow, cd, rfl, own_base (own_smF ho kr (fun b hb e => own_ne ho hr3 (by decide) (e ▸ hb))) (fun b hb => by have := (ho.lt b hb).1; omega), (((k2.trans k3).mono (F' := fun b => b = P) (fun _ h => h.elim)).trans kr).new (fun b hb => by omega)⟩
set_option maxRecDepth 100000 in
set_option maxHeartbeats 6400000 in
theorem call_c (n : Nat) (hn : 0 < n ∧ n ≤ 16) (x : DoV) (w : World) : Calls Try.prog 13 #[.int .i64 (n : Int), .agg #[.int .i64 x.1, .int .i64 x.2.1, .int .u64 (x.2.2 : Int)]] w (ProgEnd (progF n x) w) := by
  obtain ⟨k, s, ep⟩ := x
  simp only
  obtain ⟨hn0, hn1⟩ := hn
  obtain ⟨w2, hw2⟩ : ∃ w2 : World, w2 = (w.alloc (.cells #[.int .i64 k, .int .i64 s, .int .u64 (ep : Int)] 40)).alloc (.cells #[.slice none 0 0, .slice none 0 0] 46) := ⟨_, rfl⟩
  have r0 : Row w2 w.heap.size #[.int .i64 k, .int .i64 s, .int .u64 (ep : Int)] 40 := by rw [hw2]; exact (Row.new w _ _).alloc _
  have r1 : Row w2 (w.heap.size + 1) #[.slice none 0 0, .slice none 0 0] 46 := by
    rw [hw2]
    have := Row.new (w.alloc (.cells #[.int .i64 k, .int .i64 s, .int .u64 (ep : Int)] 40)) #[.slice none 0 0, .slice none 0 0] 46
    simpa using this
  have k2 : Sm (fun _ => False) w w2 := by rw [hw2]; exact ((Sm.refl _ _).alloc _).alloc _
  have z2 : w.heap.size + 1 < w2.heap.size := by rw [hw2]; simp
  have c0 : w2.cell? ⟨w.heap.size, 0, none⟩ = some (.int .i64 k) := r0.cell 0
  have c1 : w2.cell? ⟨w.heap.size, 1, none⟩ = some (.int .i64 s) := r0.cell 1
  have c2 : w2.cell? ⟨w.heap.size, 2, none⟩ = some (.int .u64 (ep : Int)) := r0.cell 2
  have HR := Lib.hid (show _ ∧ _ ∧ _ from ⟨r1, k2, z2⟩)
  have HW2 := Lib.hid hw2
  obtain ⟨q, hq⟩ : ∃ q, q = wi k 5 := ⟨_, rfl⟩
  have hq5 := (wi_five k).2
  rw [← hq] at hq5
  obtain ⟨R, hR⟩ : ∃ R, R = progF n (k, s, ep) := ⟨_, rfl⟩
  have hRR : R = progQ n s ep q := by rw [hR, hq]; rfl
  rw [← hR]
  have HRR := Lib.hid hRR
  have HQ := Lib.hid hq
  clear r0 r1 k2 z2 hw2 hq hR hRR
  have hcase : s < 0 ∨ (0 ≤ s ∧ (n : Int) ≤ s) ∨ (0 ≤ s ∧ s < (n : Int)) := by omega
  rcases hcase with j1 | ⟨j1, j2⟩ | ⟨j1, j2⟩
  · have jb : badS n s := .inl j1
    have jz : ¬ (0 : Int) ≤ s := by omega
    have HJB := Lib.hid jb
    clear jb
    go_enter Try.func13, Try.ntmps13
    go_wp2_with fail
    rw [← HW2.out]
    refine (within_c k 5 (by decide) (by decide) w2).mono ?_
    rintro e w3 ⟨rfl, rfl⟩
    rw [← HQ.out]
    rcases hq5 with rfl | rfl | rfl | rfl | rfl
    · go_wp2_with fail
      refine (now_c w2).mono ?_
      rintro e w4 ⟨cd, rfl, hown, k4⟩
      obtain ⟨ac, cc, hcd⟩ := own_form0 hown
      subst hcd
      have HON := Lib.hid (prog_on rfl HR.out.2.2 HR.out.2.1 HR.out.1 hown k4)
      clear hown k4
      go_wp2_with (refine wpList_store_row rfl 46 (.tmp 4) (.tmp 20) rfl (w.heap.size + 1) #[.slice ac nowP.length cc, .slice none 0 0] (by simp [Act.eval, Act.put]) (by simp [Act.eval, Act.put]) 46 _ HON.out.1 (by kernel_rfl) (by rfl) (by simp [Value.oneCell']) ?_)
      refine bodyPost_ret (results_cell_row rfl _ _ (w.heap.size + 1) 46 _ (0, 0) _ rfl HON.out.2.1 Try.underlying46 rfl (by kernel_rfl)) rfl ?_
      rw [HRR.out]
      exact HON.out.2.2
    · go_wp2_with fail
      refine (rfails_c 1 (by decide) w2).mono ?_
      rintro e w4 ⟨cd, rfl, hown, k4⟩
      obtain ⟨ac, cc, hcd⟩ := own_form0 hown
      subst hcd
      have HON := Lib.hid (prog_on rfl HR.out.2.2 HR.out.2.1 HR.out.1 hown k4)
      clear hown k4
      go_wp2_with (refine wpList_store_row rfl 46 (.tmp 4) (.tmp 25) rfl (w.heap.size + 1) #[.slice ac (failsP 1).length cc, .slice none 0 0] (by simp [Act.eval, Act.put]) (by simp [Act.eval, Act.put]) 46 _ HON.out.1 (by kernel_rfl) (by rfl) (by simp [Value.oneCell']) ?_)
      refine bodyPost_ret (results_cell_row rfl _ _ (w.heap.size + 1) 46 _ (0, 0) _ rfl HON.out.2.1 Try.underlying46 rfl (by kernel_rfl)) rfl ?_
      rw [HRR.out]
      show ProgEnd (if badS n s then _ else _) _ _ _
      rw [if_pos HJB.out]
      exact HON.out.2.2
    · go_wp2_with fail
      refine (rfails_c 0 (by decide) w2).mono ?_
      rintro e w4 ⟨cd, rfl, hown, k4⟩
      obtain ⟨ac, cc, hcd⟩ := own_form0 hown
      subst hcd
      have HON := Lib.hid (prog_on rfl HR.out.2.2 HR.out.2.1 HR.out.1 hown k4)
      clear hown k4
      go_wp2_with (refine wpList_store_row rfl 46 (.tmp 4) (.tmp 33) rfl (w.heap.size + 1) #[.slice ac (failsP 0).length cc, .slice none 0 0] (by simp [Act.eval, Act.put]) (by simp [Act.eval, Act.put]) 46 _ HON.out.1 (by kernel_rfl) (by rfl) (by simp [Value.oneCell']) ?_)
      refine bodyPost_ret (results_cell_row rfl _ _ (w.heap.size + 1) 46 _ (0, 0) _ rfl HON.out.2.1 Try.underlying46 rfl (by kernel_rfl)) rfl ?_
      rw [HRR.out]
      show ProgEnd (if badS n s then _ else _) _ _ _
      rw [if_pos HJB.out]
      exact HON.out.2.2
    · go_wp2_with fail
      refine (rmove_c n ⟨hn0, hn1⟩ w2).mono ?_
      rintro e w4 ⟨cd, rfl, hown, k4⟩
      obtain ⟨ac, cc, hcd⟩ := own_form0 hown
      subst hcd
      have HON := Lib.hid (prog_on rfl HR.out.2.2 HR.out.2.1 HR.out.1 hown k4)
      clear hown k4
      go_wp2_with (refine wpList_store_row rfl 46 (.tmp 4) (.tmp 40) rfl (w.heap.size + 1) #[.slice ac (moveP n ++ tell2).length cc, .slice none 0 0] (by simp [Act.eval, Act.put]) (by simp [Act.eval, Act.put]) 46 _ HON.out.1 (by kernel_rfl) (by rfl) (by simp [Value.oneCell']) ?_)
      refine bodyPost_ret (results_cell_row rfl _ _ (w.heap.size + 1) 46 _ (0, 0) _ rfl HON.out.2.1 Try.underlying46 rfl (by kernel_rfl)) rfl ?_
      rw [HRR.out]
      exact HON.out.2.2
    · go_wp2_with fail
      refine (rsafe_c ep w2).mono ?_
      rintro e w4 ⟨cd, rfl, hown, k4⟩
      obtain ⟨ac, cc, hcd⟩ := own_form0 hown
      subst hcd
      have HON := Lib.hid (prog_on rfl HR.out.2.2 HR.out.2.1 HR.out.1 hown k4)
      clear hown k4
      go_wp2_with (refine wpList_store_row rfl 46 (.tmp 4) (.tmp 43) rfl (w.heap.size + 1) #[.slice ac (safeP ep).length cc, .slice none 0 0] (by simp [Act.eval, Act.put]) (by simp [Act.eval, Act.put]) 46 _ HON.out.1 (by kernel_rfl) (by rfl) (by simp [Value.oneCell']) ?_)
      refine bodyPost_ret (results_cell_row rfl _ _ (w.heap.size + 1) 46 _ (0, 0) _ rfl HON.out.2.1 Try.underlying46 rfl (by kernel_rfl)) rfl ?_
      rw [HRR.out]
      exact HON.out.2.2
  · have jb : badS n s := .inr j2
    have jz : ¬ s < (n : Int) := by omega
    have HJB := Lib.hid jb
    clear jb
    go_enter Try.func13, Try.ntmps13
    go_wp2_with fail
    rw [← HW2.out]
    refine (within_c k 5 (by decide) (by decide) w2).mono ?_
    rintro e w3 ⟨rfl, rfl⟩
    rw [← HQ.out]
    rcases hq5 with rfl | rfl | rfl | rfl | rfl
    · go_wp2_with fail
      refine (now_c w2).mono ?_
      rintro e w4 ⟨cd, rfl, hown, k4⟩
      obtain ⟨ac, cc, hcd⟩ := own_form0 hown
      subst hcd
      have HON := Lib.hid (prog_on rfl HR.out.2.2 HR.out.2.1 HR.out.1 hown k4)
      clear hown k4
      go_wp2_with (refine wpList_store_row rfl 46 (.tmp 4) (.tmp 20) rfl (w.heap.size + 1) #[.slice ac nowP.length cc, .slice none 0 0] (by simp [Act.eval, Act.put]) (by simp [Act.eval, Act.put]) 46 _ HON.out.1 (by kernel_rfl) (by rfl) (by simp [Value.oneCell']) ?_)
      refine bodyPost_ret (results_cell_row rfl _ _ (w.heap.size + 1) 46 _ (0, 0) _ rfl HON.out.2.1 Try.underlying46 rfl (by kernel_rfl)) rfl ?_
      rw [HRR.out]
      exact HON.out.2.2
    · go_wp2_with fail
      refine (rfails_c 1 (by decide) w2).mono ?_
      rintro e w4 ⟨cd, rfl, hown, k4⟩
      obtain ⟨ac, cc, hcd⟩ := own_form0 hown
      subst hcd
      have HON := Lib.hid (prog_on rfl HR.out.2.2 HR.out.2.1 HR.out.1 hown k4)
      clear hown k4
      go_wp2_with (refine wpList_store_row rfl 46 (.tmp 4) (.tmp 25) rfl (w.heap.size + 1) #[.slice ac (failsP 1).length cc, .slice none 0 0] (by simp [Act.eval, Act.put]) (by simp [Act.eval, Act.put]) 46 _ HON.out.1 (by kernel_rfl) (by rfl) (by simp [Value.oneCell']) ?_)
      refine bodyPost_ret (results_cell_row rfl _ _ (w.heap.size + 1) 46 _ (0, 0) _ rfl HON.out.2.1 Try.underlying46 rfl (by kernel_rfl)) rfl ?_
      rw [HRR.out]
      show ProgEnd (if badS n s then _ else _) _ _ _
      rw [if_pos HJB.out]
      exact HON.out.2.2
    · go_wp2_with fail
      refine (rfails_c 0 (by decide) w2).mono ?_
      rintro e w4 ⟨cd, rfl, hown, k4⟩
      obtain ⟨ac, cc, hcd⟩ := own_form0 hown
      subst hcd
      have HON := Lib.hid (prog_on rfl HR.out.2.2 HR.out.2.1 HR.out.1 hown k4)
      clear hown k4
      go_wp2_with (refine wpList_store_row rfl 46 (.tmp 4) (.tmp 33) rfl (w.heap.size + 1) #[.slice ac (failsP 0).length cc, .slice none 0 0] (by simp [Act.eval, Act.put]) (by simp [Act.eval, Act.put]) 46 _ HON.out.1 (by kernel_rfl) (by rfl) (by simp [Value.oneCell']) ?_)
      refine bodyPost_ret (results_cell_row rfl _ _ (w.heap.size + 1) 46 _ (0, 0) _ rfl HON.out.2.1 Try.underlying46 rfl (by kernel_rfl)) rfl ?_
      rw [HRR.out]
      show ProgEnd (if badS n s then _ else _) _ _ _
      rw [if_pos HJB.out]
      exact HON.out.2.2
    · go_wp2_with fail
      refine (rmove_c n ⟨hn0, hn1⟩ w2).mono ?_
      rintro e w4 ⟨cd, rfl, hown, k4⟩
      obtain ⟨ac, cc, hcd⟩ := own_form0 hown
      subst hcd
      have HON := Lib.hid (prog_on rfl HR.out.2.2 HR.out.2.1 HR.out.1 hown k4)
      clear hown k4
      go_wp2_with (refine wpList_store_row rfl 46 (.tmp 4) (.tmp 40) rfl (w.heap.size + 1) #[.slice ac (moveP n ++ tell2).length cc, .slice none 0 0] (by simp [Act.eval, Act.put]) (by simp [Act.eval, Act.put]) 46 _ HON.out.1 (by kernel_rfl) (by rfl) (by simp [Value.oneCell']) ?_)
      refine bodyPost_ret (results_cell_row rfl _ _ (w.heap.size + 1) 46 _ (0, 0) _ rfl HON.out.2.1 Try.underlying46 rfl (by kernel_rfl)) rfl ?_
      rw [HRR.out]
      exact HON.out.2.2
    · go_wp2_with fail
      refine (rsafe_c ep w2).mono ?_
      rintro e w4 ⟨cd, rfl, hown, k4⟩
      obtain ⟨ac, cc, hcd⟩ := own_form0 hown
      subst hcd
      have HON := Lib.hid (prog_on rfl HR.out.2.2 HR.out.2.1 HR.out.1 hown k4)
      clear hown k4
      go_wp2_with (refine wpList_store_row rfl 46 (.tmp 4) (.tmp 43) rfl (w.heap.size + 1) #[.slice ac (safeP ep).length cc, .slice none 0 0] (by simp [Act.eval, Act.put]) (by simp [Act.eval, Act.put]) 46 _ HON.out.1 (by kernel_rfl) (by rfl) (by simp [Value.oneCell']) ?_)
      refine bodyPost_ret (results_cell_row rfl _ _ (w.heap.size + 1) 46 _ (0, 0) _ rfl HON.out.2.1 Try.underlying46 rfl (by kernel_rfl)) rfl ?_
      rw [HRR.out]
      exact HON.out.2.2
  · have jb : ¬ badS n s := by unfold badS; omega
    obtain ⟨sn, rfl⟩ : ∃ sn : Nat, s = (sn : Int) := ⟨s.toNat, by omega⟩
    have hsn : sn < 16 := by omega
    have HJB := Lib.hid jb
    clear jb
    go_enter Try.func13, Try.ntmps13
    go_wp2_with fail
    rw [← HW2.out]
    refine (within_c k 5 (by decide) (by decide) w2).mono ?_
    rintro e w3 ⟨rfl, rfl⟩
    rw [← HQ.out]
    rcases hq5 with rfl | rfl | rfl | rfl | rfl
    · go_wp2_with fail
      refine (now_c w2).mono ?_
      rintro e w4 ⟨cd, rfl, hown, k4⟩
      obtain ⟨ac, cc, hcd⟩ := own_form0 hown
      subst hcd
      have HON := Lib.hid (prog_on rfl HR.out.2.2 HR.out.2.1 HR.out.1 hown k4)
      clear hown k4
      go_wp2_with (refine wpList_store_row rfl 46 (.tmp 4) (.tmp 20) rfl (w.heap.size + 1) #[.slice ac nowP.length cc, .slice none 0 0] (by simp [Act.eval, Act.put]) (by simp [Act.eval, Act.put]) 46 _ HON.out.1 (by kernel_rfl) (by rfl) (by simp [Value.oneCell']) ?_)
      refine bodyPost_ret (results_cell_row rfl _ _ (w.heap.size + 1) 46 _ (0, 0) _ rfl HON.out.2.1 Try.underlying46 rfl (by kernel_rfl)) rfl ?_
      rw [HRR.out]
      exact HON.out.2.2
    · go_wp2_with fail
      refine (rpin_c sn hsn w2).mono ?_
      rintro e w4 ⟨cd, rfl, hown, k4⟩
      obtain ⟨ac, cc, hcd⟩ := own_form0 hown
      subst hcd
      have HON := Lib.hid (prog_on rfl HR.out.2.2 HR.out.2.1 HR.out.1 hown k4)
      clear hown k4
      go_wp2_with (refine wpList_store_row rfl 46 (.tmp 4) (.tmp 28) rfl (w.heap.size + 1) #[.slice ac (pinP sn ++ tell2).length cc, .slice none 0 0] (by simp [Act.eval, Act.put]) (by simp [Act.eval, Act.put]) 46 _ HON.out.1 (by kernel_rfl) (by rfl) (by simp [Value.oneCell']) ?_)
      refine bodyPost_ret (results_cell_row rfl _ _ (w.heap.size + 1) 46 _ (0, 0) _ rfl HON.out.2.1 Try.underlying46 rfl (by kernel_rfl)) rfl ?_
      rw [HRR.out]
      show ProgEnd (if badS n (sn : Int) then _ else _) _ _ _
      rw [if_neg HJB.out]
      exact HON.out.2.2
    · go_wp2_with fail
      refine (runpin_c sn hsn w2).mono ?_
      rintro e w4 ⟨cd, rfl, hown, k4⟩
      obtain ⟨ac, cc, hcd⟩ := own_form0 hown
      subst hcd
      have HON := Lib.hid (prog_on rfl HR.out.2.2 HR.out.2.1 HR.out.1 hown k4)
      clear hown k4
      go_wp2_with (refine wpList_store_row rfl 46 (.tmp 4) (.tmp 36) rfl (w.heap.size + 1) #[.slice ac (unpinP sn ++ tell1).length cc, .slice none 0 0] (by simp [Act.eval, Act.put]) (by simp [Act.eval, Act.put]) 46 _ HON.out.1 (by kernel_rfl) (by rfl) (by simp [Value.oneCell']) ?_)
      refine bodyPost_ret (results_cell_row rfl _ _ (w.heap.size + 1) 46 _ (0, 0) _ rfl HON.out.2.1 Try.underlying46 rfl (by kernel_rfl)) rfl ?_
      rw [HRR.out]
      show ProgEnd (if badS n (sn : Int) then _ else _) _ _ _
      rw [if_neg HJB.out]
      exact HON.out.2.2
    · go_wp2_with fail
      refine (rmove_c n ⟨hn0, hn1⟩ w2).mono ?_
      rintro e w4 ⟨cd, rfl, hown, k4⟩
      obtain ⟨ac, cc, hcd⟩ := own_form0 hown
      subst hcd
      have HON := Lib.hid (prog_on rfl HR.out.2.2 HR.out.2.1 HR.out.1 hown k4)
      clear hown k4
      go_wp2_with (refine wpList_store_row rfl 46 (.tmp 4) (.tmp 40) rfl (w.heap.size + 1) #[.slice ac (moveP n ++ tell2).length cc, .slice none 0 0] (by simp [Act.eval, Act.put]) (by simp [Act.eval, Act.put]) 46 _ HON.out.1 (by kernel_rfl) (by rfl) (by simp [Value.oneCell']) ?_)
      refine bodyPost_ret (results_cell_row rfl _ _ (w.heap.size + 1) 46 _ (0, 0) _ rfl HON.out.2.1 Try.underlying46 rfl (by kernel_rfl)) rfl ?_
      rw [HRR.out]
      exact HON.out.2.2
    · go_wp2_with fail
      refine (rsafe_c ep w2).mono ?_
      rintro e w4 ⟨cd, rfl, hown, k4⟩
      obtain ⟨ac, cc, hcd⟩ := own_form0 hown
      subst hcd
      have HON := Lib.hid (prog_on rfl HR.out.2.2 HR.out.2.1 HR.out.1 hown k4)
      clear hown k4
      go_wp2_with (refine wpList_store_row rfl 46 (.tmp 4) (.tmp 43) rfl (w.heap.size + 1) #[.slice ac (safeP ep).length cc, .slice none 0 0] (by simp [Act.eval, Act.put]) (by simp [Act.eval, Act.put]) 46 _ HON.out.1 (by kernel_rfl) (by rfl) (by simp [Value.oneCell']) ?_)
      refine bodyPost_ret (results_cell_row rfl _ _ (w.heap.size + 1) 46 _ (0, 0) _ rfl HON.out.2.1 Try.underlying46 rfl (by kernel_rfl)) rfl ?_
      rw [HRR.out]
      exact HON.out.2.2
end Go.Proofs.Ytokoniaoknnggaa
