/- PROVED: patchbaylaw11.TallyStill answers true whatever it is given, in whatever order its threads' steps come by the scheduler, and leaves its arguments as they were. No condition. -/
import Derived.Test.YtdedmmjmiakidaaStillMAA
import Derived.Test.YtdedmmjmiakidaaFwAJ
import Derived.Deep.Cut
import Derived.Test.YtdedmmjmiakidaaFwAM
import Derived.Deep.Matrix
set_option linter.unusedVariables false
set_option linter.unusedSimpArgs false
/- Plain words: a counting thread, from its start to its end. No condition. -/
namespace Go.Proofs.Ytdedmmjmiakidaa
open Go.Conc Go.RowKit
section
variable {L : CLay} {B T A H n : Nat} {rows : List (List Nat)} {k : Nat}
theorem cnt_addr {u : World} (h : CMem L T H n rows u) {i : Nat} (hk : k < rows.length) (hi : i < (rowOf rows k).length) : ∃ eb eo, L.ea k = some ⟨eb, eo, none⟩ := by
  obtain ⟨⟨eb, eo, sp⟩, h1, h2, _⟩ := h.row k hk i hi
  have h2 : sp = none := h2
  subst h2
  exact ⟨eb, eo, h1⟩
theorem cps_as {E : Env} {c : Code} {Q : E.ι → Exit → Array Value → World → Prop} {n : E.ι} {t : Array Value} {w : World} (h : ∀ t', t' = t → cps E c Q n t' w) : cps E c Q n t w := h t rfl
def asFun (t : Array Value) (j : Nat) : Value := t.getD j undef
theorem ex_fun {t : Array Value} {φ : (Nat → Value) → Array Value} (h : t = φ (asFun t)) : ∃ f, t = φ f := ⟨_, h⟩
set_option maxRecDepth 100000 in
theorem fr_c3 (L : CLay) (T H n : Nat) (rows : List (List Nat)) (s : SV) (eb eo k i v x : Nat) (f g : Nat → Value) (hg : g = asFun (allPut c3ops #[seatGate s, .pointer (some ⟨L.rb, 0, none⟩), .pointer (some ⟨L.kb k, 0, none⟩), .pointer (some ⟨L.pb, 0, none⟩), .pointer (some ⟨L.xb, 0, none⟩), f 5, .int .i64 i, f 7, f 8, f 9, f 10, f 11, f 12, f 13, f 14, f 15, f 16, f 17, f 18, f 19, f 20, f 21, f 22, f 23, f 24, f 25, f 26, f 27, f 28, f 29, f 30, f 31, f 32, f 33, f 34, f 35, f 36, f 37, f 38, f 39, f 40, f 41, f 42, f 43, f 44, f 45, f 46, f 47, f 48, f 49, f 50, f 51, f 52, f 53, f 54, f 55, f 56, f 57, f 58, f 59, f 60, f 61, f 62, f 63, f 64, f 65, f 66, f 67, f 68, f 69, f 70] (v3 L T H n rows s eb eo k i v x) 24)) : allPut c3ops #[seatGate s, .pointer (some ⟨L.rb, 0, none⟩), .pointer (some ⟨L.kb k, 0, none⟩), .pointer (some ⟨L.pb, 0, none⟩), .pointer (some ⟨L.xb, 0, none⟩), f 5, .int .i64 i, f 7, f 8, f 9, f 10, f 11, f 12, f 13, f 14, f 15, f 16, f 17, f 18, f 19, f 20, f 21, f 22, f 23, f 24, f 25, f 26, f 27, f 28, f 29, f 30, f 31, f 32, f 33, f 34, f 35, f 36, f 37, f 38, f 39, f 40, f 41, f 42, f 43, f 44, f 45, f 46, f 47, f 48, f 49, f 50, f 51, f 52, f 53, f 54, f 55, f 56, f 57, f 58, f 59, f 60, f 61, f 62, f 63, f 64, f 65, f 66, f 67, f 68, f 69, f 70] (v3 L T H n rows s eb eo k i v x) 24 = #[seatGate s, .pointer (some ⟨L.rb, 0, none⟩), .pointer (some ⟨L.kb k, 0, none⟩), .pointer (some ⟨L.pb, 0, none⟩), .pointer (some ⟨L.xb, 0, none⟩), g 5, .int .i64 i, .int .u64 x, .int .i64 0, g 9, g 10, g 11, g 12, g 13, g 14, g 15, g 16, g 17, g 18, g 19, g 20, g 21, g 22, g 23, g 24, g 25, g 26, g 27, g 28, g 29, g 30, g 31, g 32, g 33, g 34, g 35, g 36, g 37, g 38, g 39, g 40, g 41, g 42, g 43, g 44, g 45, g 46, g 47, g 48, g 49, g 50, g 51, g 52, g 53, g 54, g 55, g 56, g 57, g 58, g 59, g 60, g 61, g 62, g 63, g 64, g 65, g 66, g 67, g 68, g 69, g 70] := by
  subst hg
  kernel_rfl
set_option maxRecDepth 100000 in
theorem fr_c4 (L : CLay) (T H n : Nat) (rows : List (List Nat)) (s : SV) (eb eo k i v : Nat) (f g : Nat → Value) (hg : g = asFun (allPut c4ops #[seatGate s, .pointer (some ⟨L.rb, 0, none⟩), .pointer (some ⟨L.kb k, 0, none⟩), .pointer (some ⟨L.pb, 0, none⟩), .pointer (some ⟨L.xb, 0, none⟩), f 5, .int .i64 i, f 7, f 8, f 9, f 10, f 11, f 12, f 13, f 14, f 15, f 16, f 17, f 18, f 19, f 20, f 21, f 22, f 23, f 24, f 25, f 26, f 27, f 28, f 29, f 30, f 31, f 32, f 33, f 34, f 35, f 36, f 37, f 38, f 39, f 40, f 41, f 42, f 43, f 44, f 45, f 46, f 47, f 48, f 49, f 50, f 51, f 52, f 53, f 54, f 55, f 56, f 57, f 58, f 59, f 60, f 61, f 62, f 63, f 64, f 65, f 66, f 67, f 68, f 69, f 70] (v4 L T H n rows s eb eo k i v 0) 14)) : allPut c4ops #[seatGate s, .pointer (some ⟨L.rb, 0, none⟩), .pointer (some ⟨L.kb k, 0, none⟩), .pointer (some ⟨L.pb, 0, none⟩), .pointer (some ⟨L.xb, 0, none⟩), f 5, .int .i64 i, f 7, f 8, f 9, f 10, f 11, f 12, f 13, f 14, f 15, f 16, f 17, f 18, f 19, f 20, f 21, f 22, f 23, f 24, f 25, f 26, f 27, f 28, f 29, f 30, f 31, f 32, f 33, f 34, f 35, f 36, f 37, f 38, f 39, f 40, f 41, f 42, f 43, f 44, f 45, f 46, f 47, f 48, f 49, f 50, f 51, f 52, f 53, f 54, f 55, f 56, f 57, f 58, f 59, f 60, f 61, f 62, f 63, f 64, f 65, f 66, f 67, f 68, f 69, f 70] (v4 L T H n rows s eb eo k i v 0) 14 = #[seatGate s, .pointer (some ⟨L.rb, 0, none⟩), .pointer (some ⟨L.kb k, 0, none⟩), .pointer (some ⟨L.pb, 0, none⟩), .pointer (some ⟨L.xb, 0, none⟩), g 5, .int .i64 i, g 7, f 8, .int .i64 0, g 10, g 11, g 12, g 13, g 14, g 15, g 16, g 17, g 18, g 19, g 20, g 21, g 22, g 23, g 24, g 25, g 26, g 27, g 28, g 29, g 30, g 31, g 32, g 33, g 34, g 35, g 36, g 37, g 38, g 39, g 40, g 41, g 42, g 43, g 44, g 45, g 46, g 47, g 48, g 49, g 50, g 51, g 52, g 53, g 54, g 55, g 56, g 57, g 58, g 59, g 60, g 61, g 62, g 63, g 64, g 65, g 66, g 67, g 68, g 69, g 70] := by
  subst hg
  kernel_rfl
set_option maxRecDepth 100000 in
theorem fr_c5 (L : CLay) (T H n : Nat) (rows : List (List Nat)) (s : SV) (eb eo k i v x : Nat) (f g : Nat → Value) (hg : g = asFun (allPut c5ops #[seatGate s, .pointer (some ⟨L.rb, 0, none⟩), .pointer (some ⟨L.kb k, 0, none⟩), .pointer (some ⟨L.pb, 0, none⟩), .pointer (some ⟨L.xb, 0, none⟩), f 5, .int .i64 i, f 7, .int .i64 0, .int .i64 0, f 10, f 11, f 12, f 13, f 14, f 15, f 16, f 17, f 18, f 19, f 20, f 21, f 22, f 23, f 24, f 25, f 26, f 27, f 28, f 29, f 30, f 31, f 32, f 33, f 34, f 35, f 36, f 37, f 38, f 39, f 40, f 41, f 42, f 43, f 44, f 45, f 46, f 47, f 48, f 49, f 50, f 51, f 52, f 53, f 54, f 55, f 56, f 57, f 58, f 59, f 60, f 61, f 62, f 63, f 64, f 65, f 66, f 67, f 68, f 69, f 70] (v5 L T H n rows s eb eo k i v x) 18)) : allPut c5ops #[seatGate s, .pointer (some ⟨L.rb, 0, none⟩), .pointer (some ⟨L.kb k, 0, none⟩), .pointer (some ⟨L.pb, 0, none⟩), .pointer (some ⟨L.xb, 0, none⟩), f 5, .int .i64 i, f 7, .int .i64 0, .int .i64 0, f 10, f 11, f 12, f 13, f 14, f 15, f 16, f 17, f 18, f 19, f 20, f 21, f 22, f 23, f 24, f 25, f 26, f 27, f 28, f 29, f 30, f 31, f 32, f 33, f 34, f 35, f 36, f 37, f 38, f 39, f 40, f 41, f 42, f 43, f 44, f 45, f 46, f 47, f 48, f 49, f 50, f 51, f 52, f 53, f 54, f 55, f 56, f 57, f 58, f 59, f 60, f 61, f 62, f 63, f 64, f 65, f 66, f 67, f 68, f 69, f 70] (v5 L T H n rows s eb eo k i v x) 18 = #[seatGate s, .pointer (some ⟨L.rb, 0, none⟩), .pointer (some ⟨L.kb k, 0, none⟩), .pointer (some ⟨L.pb, 0, none⟩), .pointer (some ⟨L.xb, 0, none⟩), g 5, .int .i64 i, g 7, g 8, g 9, g 10, g 11, g 12, g 13, g 14, g 15, g 16, g 17, g 18, g 19, g 20, g 21, g 22, g 23, g 24, g 25, g 26, g 27, g 28, g 29, g 30, g 31, g 32, g 33, g 34, g 35, g 36, g 37, g 38, g 39, g 40, g 41, g 42, g 43, g 44, g 45, g 46, g 47, g 48, g 49, g 50, g 51, g 52, g 53, g 54, g 55, g 56, g 57, g 58, g 59, g 60, g 61, g 62, g 63, g 64, g 65, g 66, g 67, g 68, g 69, g 70] := by
  subst hg
  kernel_rfl
variable {n : Nat}
set_option maxRecDepth 100000 in
set_option maxHeartbeats 8000000 in
/-- A counting thread. -/
theorem cnt_thr (hn : 0 < n) (hn64 : n ≤ 64) (h16 : rows.length ≤ 16) (hrl : ∀ r ∈ rows, r.length ≤ 1000) (hvl : ∀ r ∈ rows, ∀ x ∈ r, x < 18446744073709551616) (hk : k < rows.length) :
    ThrC (cK L B T A H n rows).core 57 #[.pointer (some ⟨L.rb, 0, none⟩), .pointer (some ⟨L.kb k, 0, none⟩), .pointer (some ⟨L.pb, 0, none⟩), .pointer (some ⟨L.xb, 0, none⟩)] (fun σ => (σ, cntNext rows n k 0)) where
  fn := ⟨_, _, Try.func57, by kernel_rfl, rfl⟩
  run := fun Wg s θ n1 w a o hs ho hSh hw hr => by
    obtain ⟨a, b⟩ := a
    have O := envT_ok (cK L B T A H n rows).core.spec Wg (WgL Wg) s
    have h : TK (cK L B T A H n rows) Wg s (n1, (((a, ()), o), cntNext rows n k 0), θ) a () ((a, ()), cntNext rows n k 0) w := ⟨hs, ho, hSh, hw, o, hr, rfl⟩
    clear hs ho hSh hw hr
    have hll : (rowOf rows k).length ≤ 1000 := hrl _ (by unfold rowOf; rw [List.getD_eq_getElem?_getD, List.getElem?_eq_getElem hk]; exact List.getElem_mem hk)
    show cpsC (envT (cK L B T A H n rows).core.spec Wg (WgL Wg) s) _ _ _ (n1, (((a, ()), o), cntNext rows n k 0), θ) _
    refine cpsC_body O Try.func57 rfl ?_
    simp only [Try.ntmps57]
    refine cps_opaque fun Q' hQ => ?_
    walk_nrm
    repeat refine cps_seq O ?_
    (refine cps_region O ?_; simp only [List.size_toArray, List.length_cons, List.length_nil, Nat.reduceAdd, Nat.zero_add, List.range, List.range.loop])
    refine valE O rfl (.int .i64 0) rfl rfl (fun _ => by simp [go_sem]) (fun _ => by go_simp; try (first | rfl | (simp [*]))) ?_; try walk_nrm
    refine cpsR_nil O ?_
    show cps _ _ _ _ _ _
    refine cps_block O ?_
    refine cps_loopm O (fun m' n' t w' => ∃ (i : Nat) (a' : TSt), m' + i = (rowOf rows k).length ∧ TK (cK L B T A H n rows) Wg s n' a' () ((a', ()), cntNext rows n k i) w' ∧ ∃ f : Nat → Value, t = #[seatGate s, .pointer (some ⟨L.rb, 0, none⟩), .pointer (some ⟨L.kb k, 0, none⟩), .pointer (some ⟨L.pb, 0, none⟩), .pointer (some ⟨L.xb, 0, none⟩), f 5, .int .i64 i, f 7, f 8, f 9, f 10, f 11, f 12, f 13, f 14, f 15, f 16, f 17, f 18, f 19, f 20, f 21, f 22, f 23, f 24, f 25, f 26, f 27, f 28, f 29, f 30, f 31, f 32, f 33, f 34, f 35, f 36, f 37, f 38, f 39, f 40, f 41, f 42, f 43, f 44, f 45, f 46, f 47, f 48, f 49, f 50, f 51, f 52, f 53, f 54, f 55, f 56, f 57, f 58, f 59, f 60, f 61, f 62, f 63, f 64, f 65, f 66, f 67, f 68, f 69, f 70]) ?_ (m := (rowOf rows k).length) ⟨0, a, rfl, h, fun _ => undef, rfl⟩
    clear h
    rintro m' n' t w' ⟨i, a', hmi, h, f, rfl⟩
    obtain ⟨u0, _, _, hmem, _⟩ := h.lone
    have hmem : CMem L T H n rows u0 := hmem
    have k0 : (0 : Int) ≤ (k : Int) := by omega
    have k1 : (k : Int) < (rows.length : Int) := by omega
    repeat refine cps_seq O ?_
    (refine cps_region O ?_; simp only [List.size_toArray, List.length_cons, List.length_nil, Nat.reduceAdd, Nat.zero_add, List.range, List.range.loop])
    refine valE O rfl (.int .i64 i) rfl rfl (fun _ => by simp [go_sem]) (fun _ => by go_simp; try (first | rfl | (simp [*]))) ?_; try walk_nrm
    refine readTK h (.slice (some ⟨L.R, L.ro, none⟩) rows.length L.rc) rfl (by kernel_rfl) rfl (fun u h1 h2 => by
      have h2 : CMem L T H n rows u := h2
      have hm := h2.rb.cell 0
      unfold CLay.rowsV at hm
      go_simp) fun w1 h1 => ?_
    try walk_nrm
    refine readTK h1 (.int .i64 k) rfl (by kernel_rfl) rfl (fun u h1 h2 => by
      have h2 : CMem L T H n rows u := h2
      have hm := (h2.kb k hk).cell 0
      go_simp) fun w2 h2 => ?_
    try walk_nrm
    refine readTK h2 (.pointer (some ⟨L.R, L.ro + k, none⟩)) rfl (by kernel_rfl) rfl (fun u _ _ => by go_simp) fun w2 h2 => ?_
    try walk_nrm
    refine readTK h2 (.slice (L.ea k) (rowOf rows k).length (L.ec k)) rfl (by kernel_rfl) rfl (fun u h1 h2 => by
      have h2 : CMem L T H n rows u := h2
      have hm := h2.rs k hk
      unfold CLay.row at hm
      go_simp) fun w3 h3 => ?_
    try walk_nrm
    clear h h1 h2
    refine valE O rfl (.int .i64 (rowOf rows k).length) rfl rfl (fun _ => by simp [go_sem]) (fun _ => by go_simp; try (first | rfl | (simp [*]))) ?_; try walk_nrm
    by_cases hi : i < (rowOf rows k).length
    · have i1 : (i : Int) < ((rowOf rows k).length : Int) := by omega
      refine valE O rfl (.bool true) rfl rfl (fun _ => by simp [go_sem]) (fun _ => by go_simp; try (first | rfl | (simp [*]))) ?_; try walk_nrm
      clear i1
      refine cpsR_nil O ?_
      show cps _ _ _ _ _ _
      refine cps_cond O (v := true) rfl ?_
      simp only [if_true]
      refine cps_skip O ?_
      show cps _ _ _ _ _ _
      repeat refine cps_seq O ?_
      refine cps_block O ?_
      refine cps_seq O ?_
      obtain ⟨eb, eo, hea⟩ := cnt_addr hmem hk hi
      obtain ⟨v, hv⟩ : ∃ v, v = (rowOf rows k).getD i 0 := ⟨_, rfl⟩
      have hv64 : v < 18446744073709551616 := by rw [hv]; exact row_lt hvl k i
      have hni : cntNext rows n k i = some (TPos.add (k % n) v, ⟨k, i, false⟩) := by unfold cntNext; rw [if_pos hi, hv]
      rw [hni] at h3
      clear hni hmem
      refine cps_as fun t1 ht1 => ?_
      have e1 : t1 = #[seatGate s, .pointer (some ⟨L.rb, 0, none⟩), .pointer (some ⟨L.kb k, 0, none⟩), .pointer (some ⟨L.pb, 0, none⟩), .pointer (some ⟨L.xb, 0, none⟩), ((asFun t1)) 5, .int .i64 i, ((asFun t1)) 7, ((asFun t1)) 8, ((asFun t1)) 9, ((asFun t1)) 10, ((asFun t1)) 11, ((asFun t1)) 12, ((asFun t1)) 13, ((asFun t1)) 14, ((asFun t1)) 15, ((asFun t1)) 16, ((asFun t1)) 17, ((asFun t1)) 18, ((asFun t1)) 19, ((asFun t1)) 20, ((asFun t1)) 21, ((asFun t1)) 22, ((asFun t1)) 23, ((asFun t1)) 24, ((asFun t1)) 25, ((asFun t1)) 26, ((asFun t1)) 27, ((asFun t1)) 28, ((asFun t1)) 29, ((asFun t1)) 30, ((asFun t1)) 31, ((asFun t1)) 32, ((asFun t1)) 33, ((asFun t1)) 34, ((asFun t1)) 35, ((asFun t1)) 36, ((asFun t1)) 37, ((asFun t1)) 38, ((asFun t1)) 39, ((asFun t1)) 40, ((asFun t1)) 41, ((asFun t1)) 42, ((asFun t1)) 43, ((asFun t1)) 44, ((asFun t1)) 45, ((asFun t1)) 46, ((asFun t1)) 47, ((asFun t1)) 48, ((asFun t1)) 49, ((asFun t1)) 50, ((asFun t1)) 51, ((asFun t1)) 52, ((asFun t1)) 53, ((asFun t1)) 54, ((asFun t1)) 55, ((asFun t1)) 56, ((asFun t1)) 57, ((asFun t1)) 58, ((asFun t1)) 59, ((asFun t1)) 60, ((asFun t1)) 61, ((asFun t1)) 62, ((asFun t1)) 63, ((asFun t1)) 64, ((asFun t1)) 65, ((asFun t1)) 66, ((asFun t1)) 67, ((asFun t1)) 68, ((asFun t1)) 69, ((asFun t1)) 70] := by subst ht1; kernel_rfl
      obtain ⟨f1, hf1⟩ : ∃ f1, f1 = asFun t1 := ⟨_, rfl⟩
      rw [← hf1] at e1
      rw [e1]
      clear e1 hf1 ht1
      clear t1
      change cps _ (.region 3 c3ops true) _ _ _ _
      refine c3_reg hn hn64 h16 hk hi hll hv hv64 hea h3 fun m2 a2 x w4 h4 => ?_
      obtain ⟨f2, hf2⟩ : ∃ f2, f2 = asFun (allPut c3ops #[seatGate s, .pointer (some ⟨L.rb, 0, none⟩), .pointer (some ⟨L.kb k, 0, none⟩), .pointer (some ⟨L.pb, 0, none⟩), .pointer (some ⟨L.xb, 0, none⟩), f1 5, .int .i64 i, f1 7, f1 8, f1 9, f1 10, f1 11, f1 12, f1 13, f1 14, f1 15, f1 16, f1 17, f1 18, f1 19, f1 20, f1 21, f1 22, f1 23, f1 24, f1 25, f1 26, f1 27, f1 28, f1 29, f1 30, f1 31, f1 32, f1 33, f1 34, f1 35, f1 36, f1 37, f1 38, f1 39, f1 40, f1 41, f1 42, f1 43, f1 44, f1 45, f1 46, f1 47, f1 48, f1 49, f1 50, f1 51, f1 52, f1 53, f1 54, f1 55, f1 56, f1 57, f1 58, f1 59, f1 60, f1 61, f1 62, f1 63, f1 64, f1 65, f1 66, f1 67, f1 68, f1 69, f1 70] (v3 L T H n rows s eb eo k i v x) 24) := ⟨_, rfl⟩
      rw [fr_c3 L T H n rows s eb eo k i v x f1 f2 hf2]
      have h4 : TK (cK L B T A H n rows) Wg s m2 a2 () ((a2, ()), some (TPos.h1 v, ⟨k, i, true⟩)) w4 := by rw [hv]; exact h4
      clear hf2 h3
      refine cps_seq O ?_
      refine cps_as fun t1 ht1 => ?_
      have e1 : t1 = #[seatGate s, .pointer (some ⟨L.rb, 0, none⟩), .pointer (some ⟨L.kb k, 0, none⟩), .pointer (some ⟨L.pb, 0, none⟩), .pointer (some ⟨L.xb, 0, none⟩), ((asFun t1)) 5, .int .i64 i, ((asFun t1)) 7, ((asFun t1)) 8, ((asFun t1)) 9, ((asFun t1)) 10, ((asFun t1)) 11, ((asFun t1)) 12, ((asFun t1)) 13, ((asFun t1)) 14, ((asFun t1)) 15, ((asFun t1)) 16, ((asFun t1)) 17, ((asFun t1)) 18, ((asFun t1)) 19, ((asFun t1)) 20, ((asFun t1)) 21, ((asFun t1)) 22, ((asFun t1)) 23, ((asFun t1)) 24, ((asFun t1)) 25, ((asFun t1)) 26, ((asFun t1)) 27, ((asFun t1)) 28, ((asFun t1)) 29, ((asFun t1)) 30, ((asFun t1)) 31, ((asFun t1)) 32, ((asFun t1)) 33, ((asFun t1)) 34, ((asFun t1)) 35, ((asFun t1)) 36, ((asFun t1)) 37, ((asFun t1)) 38, ((asFun t1)) 39, ((asFun t1)) 40, ((asFun t1)) 41, ((asFun t1)) 42, ((asFun t1)) 43, ((asFun t1)) 44, ((asFun t1)) 45, ((asFun t1)) 46, ((asFun t1)) 47, ((asFun t1)) 48, ((asFun t1)) 49, ((asFun t1)) 50, ((asFun t1)) 51, ((asFun t1)) 52, ((asFun t1)) 53, ((asFun t1)) 54, ((asFun t1)) 55, ((asFun t1)) 56, ((asFun t1)) 57, ((asFun t1)) 58, ((asFun t1)) 59, ((asFun t1)) 60, ((asFun t1)) 61, ((asFun t1)) 62, ((asFun t1)) 63, ((asFun t1)) 64, ((asFun t1)) 65, ((asFun t1)) 66, ((asFun t1)) 67, ((asFun t1)) 68, ((asFun t1)) 69, ((asFun t1)) 70] := by subst ht1; kernel_rfl
      have e8 : asFun t1 8 = .int .i64 0 := by subst ht1; rfl
      obtain ⟨f3, hf3⟩ : ∃ f3, f3 = asFun t1 := ⟨_, rfl⟩
      rw [← hf3] at e1 e8
      rw [e1]
      clear e1 hf3 ht1
      clear t1
      change cps _ (.region 4 c4ops true) _ _ _ _
      refine c4_reg hn hn64 h16 hk hi hll hv hv64 hea h4 fun m3 a3 w5 h5 => ?_
      obtain ⟨f4, hf4⟩ : ∃ f4, f4 = asFun (allPut c4ops #[seatGate s, .pointer (some ⟨L.rb, 0, none⟩), .pointer (some ⟨L.kb k, 0, none⟩), .pointer (some ⟨L.pb, 0, none⟩), .pointer (some ⟨L.xb, 0, none⟩), f3 5, .int .i64 i, f3 7, f3 8, f3 9, f3 10, f3 11, f3 12, f3 13, f3 14, f3 15, f3 16, f3 17, f3 18, f3 19, f3 20, f3 21, f3 22, f3 23, f3 24, f3 25, f3 26, f3 27, f3 28, f3 29, f3 30, f3 31, f3 32, f3 33, f3 34, f3 35, f3 36, f3 37, f3 38, f3 39, f3 40, f3 41, f3 42, f3 43, f3 44, f3 45, f3 46, f3 47, f3 48, f3 49, f3 50, f3 51, f3 52, f3 53, f3 54, f3 55, f3 56, f3 57, f3 58, f3 59, f3 60, f3 61, f3 62, f3 63, f3 64, f3 65, f3 66, f3 67, f3 68, f3 69, f3 70] (v4 L T H n rows s eb eo k i v 0) 14) := ⟨_, rfl⟩
      rw [fr_c4 L T H n rows s eb eo k i v f3 f4 hf4, e8]
      have h5 : TK (cK L B T A H n rows) Wg s m3 a3 () ((a3, ()), cntNext rows n k (i + 1)) w5 := h5
      clear hf4 h4 e8
      change cps _ (.region 5 c5ops true) _ _ _ _
      refine c5_reg (eb := eb) (eo := eo) (v := v) (x := x) hn h16 hk h5 fun w6 h6 => ?_
      obtain ⟨f5, hf5⟩ : ∃ f5, f5 = asFun (allPut c5ops #[seatGate s, .pointer (some ⟨L.rb, 0, none⟩), .pointer (some ⟨L.kb k, 0, none⟩), .pointer (some ⟨L.pb, 0, none⟩), .pointer (some ⟨L.xb, 0, none⟩), f4 5, .int .i64 i, f4 7, .int .i64 0, .int .i64 0, f4 10, f4 11, f4 12, f4 13, f4 14, f4 15, f4 16, f4 17, f4 18, f4 19, f4 20, f4 21, f4 22, f4 23, f4 24, f4 25, f4 26, f4 27, f4 28, f4 29, f4 30, f4 31, f4 32, f4 33, f4 34, f4 35, f4 36, f4 37, f4 38, f4 39, f4 40, f4 41, f4 42, f4 43, f4 44, f4 45, f4 46, f4 47, f4 48, f4 49, f4 50, f4 51, f4 52, f4 53, f4 54, f4 55, f4 56, f4 57, f4 58, f4 59, f4 60, f4 61, f4 62, f4 63, f4 64, f4 65, f4 66, f4 67, f4 68, f4 69, f4 70] (v5 L T H n rows s eb eo k i v x) 18) := ⟨_, rfl⟩
      rw [fr_c5 L T H n rows s eb eo k i v x f4 f5 hf5]
      clear hf5 h5
      show cps _ _ _ _ _ _
      have hp : IntKind.i64.wrap ((i : Int) + 1) = (i : Int) + 1 := wrap_i64 _ (by omega) (by omega)
      (refine cps_region O ?_; simp only [List.size_toArray, List.length_cons, List.length_nil, Nat.reduceAdd, Nat.zero_add, List.range, List.range.loop])
      refine valE O rfl (.int .i64 i) rfl rfl (fun _ => by simp [go_sem]) (fun _ => by go_simp; try (first | rfl | (simp [*]))) ?_; try walk_nrm
      refine valE O rfl (.int .i64 (i + 1 : Nat)) rfl rfl (fun _ => by simp [go_sem]) (fun _ => by go_simp; try (first | rfl | (simp [*]))) ?_; try walk_nrm
      refine valE O rfl (.int .i64 (i + 1 : Nat)) rfl rfl (fun _ => by simp [go_sem]) (fun _ => by go_simp; try (first | rfl | (simp [*]))) ?_; try walk_nrm
      refine cpsR_nil O ?_
      exact ⟨m' - 1, by omega, i + 1, a3, by omega, h6, ex_fun (φ := fun f => #[seatGate s, .pointer (some ⟨L.rb, 0, none⟩), .pointer (some ⟨L.kb k, 0, none⟩), .pointer (some ⟨L.pb, 0, none⟩), .pointer (some ⟨L.xb, 0, none⟩), f 5, .int .i64 (i + 1 : Nat), f 7, f 8, f 9, f 10, f 11, f 12, f 13, f 14, f 15, f 16, f 17, f 18, f 19, f 20, f 21, f 22, f 23, f 24, f 25, f 26, f 27, f 28, f 29, f 30, f 31, f 32, f 33, f 34, f 35, f 36, f 37, f 38, f 39, f 40, f 41, f 42, f 43, f 44, f 45, f 46, f 47, f 48, f 49, f 50, f 51, f 52, f 53, f 54, f 55, f 56, f 57, f 58, f 59, f 60, f 61, f 62, f 63, f 64, f 65, f 66, f 67, f 68, f 69, f 70]) (by kernel_rfl)⟩
    · have i1 : ¬ (i : Int) < ((rowOf rows k).length : Int) := by omega
      refine valE O rfl (.bool false) rfl rfl (fun _ => by simp [go_sem]) (fun _ => by go_simp; try (first | rfl | (simp [*]))) ?_; try walk_nrm
      clear i1
      refine cpsR_nil O ?_
      show cps _ _ _ _ _ _
      refine cps_cond O (v := false) rfl ?_
      simp only [Bool.false_eq_true, if_false]
      refine cps_exit O ?_
      have hni : cntNext rows n k i = none := by unfold cntNext; rw [if_neg hi]
      rw [hni] at h3
      exact hQ _ _ _ _ ⟨.inl rfl, .tuple #[], ret0E O rfl rfl, h3.done⟩
end
end Go.Proofs.Ytdedmmjmiakidaa
/- Plain words: patchbaylaw11.counting, walked alone: the threads that it makes. No condition. -/
namespace Go.Proofs.Ytdedmmjmiakidaa
open Go.Conc Go.RowKit
set_option linter.unusedVariables false
set_option linter.unusedSimpArgs false
theorem info_fn : (Try.prog.info? 94).map (fun i => (i.zero, i.size, i.bytes)) = some (some .nilFunc, 1, 8) := by kernel_rfl
/-- A counting thread as a value. -/
def cntV (rb pb xb : Nat) (kb : Nat → Nat) (j : Nat) : Value := .func (.func 57) #[] #[.pointer (some ⟨rb, 0, none⟩), .pointer (some ⟨kb j, 0, none⟩), .pointer (some ⟨pb, 0, none⟩), .pointer (some ⟨xb, 0, none⟩)]
def cntVs (rb pb xb : Nat) (kb : Nat → Nat) (i : Nat) : List Value := (List.range i).map (cntV rb pb xb kb)
theorem cntVs_len (rb pb xb : Nat) (kb : Nat → Nat) (i : Nat) : (cntVs rb pb xb kb i).length = i := by simp [cntVs]
theorem cntVs_succ (rb pb xb : Nat) (kb kb' : Nat → Nat) (i : Nat) (h : ∀ j, j < i → kb' j = kb j) : cntVs rb pb xb kb' (i + 1) = cntVs rb pb xb kb i ++ [cntV rb pb xb kb' i] := by
  simp only [cntVs, List.range_succ, List.map_append, List.map_cons, List.map_nil]
  congr 1
  refine List.map_congr_left fun j hj => ?_
  unfold cntV
  rw [h j (List.mem_range.1 hj)]
/-- The threads that counting makes. -/
structure FunM (m C0 : Nat) (v : Value) (kb : Nat → Nat) (u : World) : Prop where
  boxes : ∀ j, j < m → Row u (kb j) #[.int .i64 j] 3 ∧ C0 + 3 ≤ kb j
  own : ∃ bs, C0 + 3 ≤ bs ∧ u.ownsRow bs 94 1 v m (cntVs (C0 + 1) C0 (C0 + 2) kb m)
instance gm_funM {m C0 : Nat} {v : Value} {kb : Nat → Nat} : GM (FunM m C0 v kb) := ⟨fun u u' h q => ⟨fun j hj => ⟨gm_row.keep u u' h (q.boxes j hj).1, (q.boxes j hj).2⟩, by obtain ⟨bs, h1, h2⟩ := q.own; exact ⟨bs, h1, gm_own.keep u u' h h2⟩⟩⟩
/-- The boxes of it. -/
structure BoxM (P X C0 m cr : Nat) (ar : Option Addr) (u : World) : Prop where
  pb : Row u C0 #[.pointer (some ⟨P, 0, none⟩)] 65
  rb : Row u (C0 + 1) #[.slice ar m cr] 34
  xb : Row u (C0 + 2) #[.pointer (some ⟨X, 0, none⟩)] 72
instance gm_boxM {P X C0 m cr : Nat} {ar : Option Addr} : GM (BoxM P X C0 m cr ar) := ⟨fun u u' h q => ⟨gm_row.keep u u' h q.pb, gm_row.keep u u' h q.rb, gm_row.keep u u' h q.xb⟩⟩
def cFrame (P X B m cr : Nat) (ar : Option Addr) (v : Value) (f : Nat → Value) : Array Value := #[.pointer (some ⟨P, 0, none⟩), .slice ar m cr, .pointer (some ⟨X, 0, none⟩), .pointer (some ⟨B, 0, none⟩), .pointer (some ⟨B + 1, 0, none⟩), .pointer (some ⟨B + 2, 0, none⟩), .slice none 0 0, v, f 8, f 9, f 10, f 11, f 12, f 13, f 14, f 15, f 16, f 17, f 18, f 19, f 20]
section
variable {W : Machine → Trace → Prop} {x : LX} {M : World → Prop} {w : World}
set_option maxRecDepth 100000 in
set_option maxHeartbeats 3200000 in
theorem counting_g [hM : GM M] (h : Kn x M w) (P X : Nat) (ar : Option Addr) (m cr : Nat) (hm : m ≤ 16) {Q : LX → Value → World → Prop}
    (hq : ∀ v kb w', Kn x (fun u => BoxM P X w.heap.size m cr ar u ∧ FunM m w.heap.size v kb u ∧ M u) w' → w.heap.size ≤ w'.heap.size → Q x v w') :
    cpsC (envL W) 28 #[.pointer (some ⟨P, 0, none⟩), .slice ar m cr, .pointer (some ⟨X, 0, none⟩)] Q x w := by
  have O := envL_ok (W := W)
  refine cpsC_body O Try.func28 rfl ?_
  simp only [Try.ntmps28]
  refine cps_opaque fun Q' hQ => ?_
  obtain ⟨B, hB⟩ : ∃ B, B = w.heap.size := ⟨_, rfl⟩
  rw [← hB] at hq
  have Hq := Lib.hid hq
  have HBW := Lib.hid hB
  clear hq hB
  walk_nrm
  repeat refine cps_seq O ?_
  refine aloneG (α := Unit) (fun _ => #[.pointer (some ⟨P, 0, none⟩), .slice ar m cr, .pointer (some ⟨X, 0, none⟩), .pointer (some ⟨B, 0, none⟩), .pointer (some ⟨B + 1, 0, none⟩), .pointer (some ⟨B + 2, 0, none⟩), .slice none 0 0, undef, undef, undef, undef, undef, undef, undef, undef, undef, undef, undef, undef, undef, undef]) (fun _ u => BoxM P X B m cr ar u ∧ M u) h (by kernel_rfl) (fun u hu hs K hK => ?_) fun y w1 h1 hz1 => ?_
  · have hB : B = u.heap.size := by rw [hs]; exact HBW.out
    have Hu := Lib.hid hu
    clear hu
    go_wp2
    have r0 : Row (((u.alloc (.cells #[.pointer (some ⟨P, 0, none⟩)] 65 (0, 0))).alloc (.cells #[.slice ar m cr] 34 (0, 0))).alloc (.cells #[.pointer (some ⟨X, 0, none⟩)] 72 (0, 0))) B #[.pointer (some ⟨P, 0, none⟩)] 65 := by rw [hB]; exact ((Row.new u _ _).alloc _).alloc _
    have r1 : Row (((u.alloc (.cells #[.pointer (some ⟨P, 0, none⟩)] 65 (0, 0))).alloc (.cells #[.slice ar m cr] 34 (0, 0))).alloc (.cells #[.pointer (some ⟨X, 0, none⟩)] 72 (0, 0))) (B + 1) #[.slice ar m cr] 34 := by
      have := (Row.new (u.alloc (.cells #[.pointer (some ⟨P, 0, none⟩)] 65 (0, 0))) #[.slice ar m cr] 34).alloc (.cells #[.pointer (some ⟨X, 0, none⟩)] 72 (0, 0))
      rw [World.size_alloc, ← hB] at this
      exact this
    have r2 : Row (((u.alloc (.cells #[.pointer (some ⟨P, 0, none⟩)] 65 (0, 0))).alloc (.cells #[.slice ar m cr] 34 (0, 0))).alloc (.cells #[.pointer (some ⟨X, 0, none⟩)] 72 (0, 0))) (B + 2) #[.pointer (some ⟨X, 0, none⟩)] 72 := by
      have := Row.new ((u.alloc (.cells #[.pointer (some ⟨P, 0, none⟩)] 65 (0, 0))).alloc (.cells #[.slice ar m cr] 34 (0, 0))) #[.pointer (some ⟨X, 0, none⟩)] 72
      rw [World.size_alloc, World.size_alloc, ← hB] at this
      exact this
    have s0 : Sm (fun _ => False) u (((u.alloc (.cells #[.pointer (some ⟨P, 0, none⟩)] 65 (0, 0))).alloc (.cells #[.slice ar m cr] 34 (0, 0))).alloc (.cells #[.pointer (some ⟨X, 0, none⟩)] 72 (0, 0))) := (((Sm.refl _ _).alloc _).alloc _).alloc _
    exact hK () _ _ rfl (by have e := HBW.out; clear HBW Hq r0 r1 r2 hB; subst e; rfl) ⟨⟨r0, r1, r2⟩, GM.sm s0 Hu.out⟩
  clear h
  show cps _ _ _ _ _ _
  repeat refine cps_seq O ?_
  (refine cps_region O ?_; simp only [List.size_toArray, List.length_cons, List.length_nil, Nat.reduceAdd, Nat.zero_add, List.range, List.range.loop])
  refine valE O rfl (.slice none 0 0) rfl rfl (fun _ => by simp [go_sem]) (fun _ => by go_simp; try (first | rfl | (simp [*]))) ?_; try walk_nrm
  refine cpsR_nil O ?_
  show cps _ _ _ _ _ _
  repeat refine cps_seq O ?_
  refine aloneG (α := Nat) (fun q => #[.pointer (some ⟨P, 0, none⟩), .slice ar m cr, .pointer (some ⟨X, 0, none⟩), .pointer (some ⟨B, 0, none⟩), .pointer (some ⟨B + 1, 0, none⟩), .pointer (some ⟨B + 2, 0, none⟩), .slice none 0 0, .slice none 0 0, .pointer (some ⟨q, 0, none⟩), undef, undef, undef, undef, undef, undef, undef, undef, undef, undef, undef, undef]) (fun q u => B + 3 ≤ q ∧ Row u q #[.int .i64 0] 3 ∧ BoxM P X B m cr ar u ∧ M u) h1 (by kernel_rfl) (fun u hu hs K hK => ?_) fun q0 w2 h2 hz2 => ?_
  · have hrw : Row (u.alloc (.cells #[.int .i64 0] 3 (0, 0))) u.heap.size #[.int .i64 0] 3 := Row.new u _ _
    have hsm : Sm (fun _ => False) u (u.alloc (.cells #[.int .i64 0] 3 (0, 0))) := (Sm.refl _ _).alloc _
    have q1 := hrw.cell 0
    have q2 := hrw.free 0
    have Hall := Lib.hid (And.intro (show B + 3 ≤ u.heap.size by have := hu.1.xb.lt; omega) (And.intro hrw (And.intro (GM.sm hsm hu.1) (GM.sm hsm hu.2))))
    clear hu hsm hrw hs
    go_wp2
    exact hK u.heap.size _ _ rfl rfl Hall.out
  clear h1
  show cps _ _ _ _ _ _
  repeat refine cps_seq O ?_
  refine aloneG (α := Value × (Nat → Nat) × (Nat → Value)) (fun y => cFrame P X B m cr ar y.1 y.2.2) (fun y u => BoxM P X B m cr ar u ∧ FunM m B y.1 y.2.1 u ∧ M u) h2 (by kernel_rfl) (fun u hu hs K hK => ?_) fun y w3 h3 hz3 => ?_
  · have hK' : ∀ (a' : Act) (u' : World), a'.defers = [] → (∃ v kb, a'.tmps = cFrame P X B m cr ar v (slotsOf a'.tmps) ∧ BoxM P X B m cr ar u' ∧ FunM m B v kb u' ∧ M u') → K a' u' := fun a' u' h1 h => by
      obtain ⟨v, kb, h2, h3⟩ := h
      exact hK (v, kb, slotsOf a'.tmps) a' u' h1 h2 h3
    obtain ⟨i0, hi, hz0, hz1, hz2⟩ := info_parts info_fn
    have Hi := Lib.hid hi
    have Hz0 := Lib.hid hz0
    have Hz1 := Lib.hid hz1
    have Hz2 := Lib.hid hz2
    have Hu := Lib.hid hu
    clear hi hz0 hz1 hz2 hu hK hs h2
    go_wp2
    go_loopw [7, 8] (fun s7 s8 wr => ∃ (i : Nat) (kb : Nat → Nat) (q : Nat), i ≤ m ∧ s8 = .pointer (some ⟨q, 0, none⟩) ∧ Hid (Row wr q #[.int .i64 i] 3) ∧ Hid (B + 3 ≤ q) ∧ Hid (wr.ownsRow u.heap.size 94 1 s7 i (cntVs (B + 1) B (B + 2) kb i)) ∧ Hid (∀ j, j < i → Row wr (kb j) #[.int .i64 j] 3 ∧ B + 3 ≤ kb j) ∧ Hid (Row wr B #[.pointer (some ⟨P, 0, none⟩)] 65) ∧ Hid (Row wr (B + 1) #[.slice ar m cr] 34) ∧ Hid (Row wr (B + 2) #[.pointer (some ⟨X, 0, none⟩)] 72) ∧ Hid (Sm (fun _ => False) u wr)) (fun s7 _ _ => match s7 with | .slice _ n _ => m - n | _ => 0)
    case atStart =>
      refine ⟨0, fun _ => 0, q0, by omega, rfl, Lib.hid Hu.out.2.1, Lib.hid Hu.out.1, Lib.hid (World.ownsRow_nil _ _ _ _), Lib.hid (fun j hj => by omega), Lib.hid Hu.out.2.2.1.pb, Lib.hid Hu.out.2.2.1.rb, Lib.hid Hu.out.2.2.1.xb, Lib.hid (Sm.refl _ _)⟩
    case round =>
      have hBU : B + 3 ≤ u.heap.size := by have := Hu.out.2.1.lt; have := Hu.out.1; omega
      obtain ⟨wo, rfl⟩ : ∃ wo : World, wo = wr := ⟨_, rfl⟩
      obtain ⟨i, kb, q, hi, rfl, hq, hqB, hown, hkb, h0, h1, h2, hS⟩ := hrel
      obtain ⟨a7, c7, hv7⟩ := own_form0 hown.out
      subst hv7
      have c1 := hq.out.cell 0
      have c2 := h1.out.cell 0
      by_cases hlt : i < m
      · have j1 : (i : Int) < (m : Int) := by omega
        have hp : wrap64 ((i : Int) + 1) = ((i + 1 : Nat) : Int) := by unfold wrap64; omega
        have HP := Lib.hid hp
        clear hp
        have hBs := hS.out.size
        have hBZ : B + 3 ≤ wo.heap.size := by have := hq.out.lt; have := hqB.out; omega
        obtain ⟨kb', hkb'⟩ : ∃ kb' : Nat → Nat, kb' = fun j => if j = i then q else kb j := ⟨_, rfl⟩
        have hk1 : kb' i = q := by rw [hkb']; simp
        have hk2 : ∀ j, j < i → kb' j = kb j := fun j hj => by rw [hkb']; simp; intro e; omega
        have HK1 := Lib.hid hk1
        have HK2 := Lib.hid hk2
        clear hkb' hk1 hk2
        have d1 := Lib.hid (hown.out.alloc (.cells #[cntV (B + 1) B (B + 2) kb' i] 94 (0, 0)))
        obtain ⟨fv, hfv⟩ : ∃ fv, fv = cntV (B + 1) B (B + 2) kb' i := ⟨_, rfl⟩
        have hfv' : fv = .func (.func 57) #[] #[.pointer (some ⟨B + 1, 0, none⟩), .pointer (some ⟨q, 0, none⟩), .pointer (some ⟨B, 0, none⟩), .pointer (some ⟨B + 2, 0, none⟩)] := by rw [hfv]; unfold cntV; rw [HK1.out]
        have HFV := Lib.hid hfv
        have HFV' := Lib.hid hfv'
        rw [← hfv, hfv'] at d1
        clear hfv hfv'
        go_upto_region 6 with (at_builtin; refine wpList_append_own _ rfl (.tmp 15) (.tmp 17) 70 rfl u.heap.size 94 i0 .nilFunc 1 8 Try.underlying70 Hi.out Hz0.out Hz1.out Hz2.out rfl (by decide) _ i (cntVs (B + 1) B (B + 2) kb i) rfl d1.out ⟨wo.heap.size, 0, none⟩ 1 1 [.func (.func 57) #[] #[.pointer (some ⟨B + 1, 0, none⟩), .pointer (some ⟨q, 0, none⟩), .pointer (some ⟨B, 0, none⟩), .pointer (some ⟨B + 2, 0, none⟩)]] rfl rfl (new_cells wo [.func (.func 57) #[] #[.pointer (some ⟨B + 1, 0, none⟩), .pointer (some ⟨q, 0, none⟩), .pointer (some ⟨B, 0, none⟩), .pointer (some ⟨B + 2, 0, none⟩)]] 94) (by simp [Value.oneCell']) (by unfold maxLen; omega) (by omega) (by simp; omega) ?_; intro v' w4 hown4 hgr4 _)
        have hw4 : Hid (wo.heap.size < w4.heap.size) := Lib.hid (by have := hgr4.size; simp at this; omega)
        have eq4 : Hid (Row w4 q #[.int .i64 i] 3) := Lib.hid ((hq.out.alloc _).grown hgr4 (own_ne_row hown.out hq.out (by decide)))
        have e0 : Hid (Row w4 B #[.pointer (some ⟨P, 0, none⟩)] 65) := Lib.hid ((h0.out.alloc _).grown hgr4 (own_ne_row hown.out h0.out (by decide)))
        have e1 : Hid (Row w4 (B + 1) #[.slice ar m cr] 34) := Lib.hid ((h1.out.alloc _).grown hgr4 (own_ne_row hown.out h1.out (by decide)))
        have e2 : Hid (Row w4 (B + 2) #[.pointer (some ⟨X, 0, none⟩)] 72) := Lib.hid ((h2.out.alloc _).grown hgr4 (own_ne_row hown.out h2.out (by decide)))
        have ek : Hid (∀ j, j < i + 1 → Row w4 (kb' j) #[.int .i64 j] 3 ∧ B + 3 ≤ kb' j) := Lib.hid (fun j hj => by
          by_cases e : j = i
          · subst e
            rw [HK1.out]
            exact ⟨eq4.out, hqB.out⟩
          · rw [HK2.out j (by omega)]
            obtain ⟨k1, k2⟩ := hkb.out j (by omega)
            exact ⟨(k1.alloc _).grown hgr4 (own_ne_row hown.out k1 (by decide)), k2⟩)
        have eo : Hid (w4.ownsRow u.heap.size 94 1 v' (i + 1) (cntVs (B + 1) B (B + 2) kb' (i + 1))) := Lib.hid (by
          rw [cntVs_succ _ _ _ kb kb' i HK2.out, ← HFV.out, HFV'.out]
          exact hown4)
        have es : Hid (Sm (fun _ => False) u w4) := Lib.hid (by
          have z := hS.out.size
          exact ⟨hgr4.os.trans hS.out.os, hgr4.tape.trans hS.out.tape, hgr4.output.trans hS.out.output, by have := hgr4.size; simp at this; omega, fun j hj hf => (hgr4.block j (by simp; omega) (fun e => by have := (hown.out.lt j e.symm).1; omega)).trans ((Below.heap_alloc _ _ _ (by omega)).trans (hS.out.block j hj hf))⟩)
        clear hgr4 hown4 hown hq h0 h1 h2 hS c1 c2 hkb d1
        obtain ⟨a8, c8, hv8⟩ := own_form0 eo.out
        subst hv8
        have c1 := eq4.out.cell 0
        have q0 : Row (w4.alloc (.cells #[.int .i64 0] 3 (0, 0))) w4.heap.size #[.int .i64 0] 3 := Row.new w4 _ _
        have q1 := q0.cell 0
        have q2 := q0.free 0
        have z0 : (w4.alloc (.cells #[.int .i64 0] 3 (0, 0))).heap.size = w4.heap.size + 1 := by simp [World.size_alloc]
        go_wp2_with fail
        have hsz := es.out.size
        refine ⟨⟨i + 1, kb', w4.heap.size, by omega, rfl, Lib.hid (by have := Row.new w4 #[.int .i64 ((i + 1 : Nat) : Int)] 3; simpa using this), Lib.hid (by have := e2.out.lt; omega), Lib.hid (eo.out.alloc _), Lib.hid (fun j hj => ⟨(ek.out j hj).1.alloc _, (ek.out j hj).2⟩), Lib.hid (e0.out.alloc _), Lib.hid (e1.out.alloc _), Lib.hid (e2.out.alloc _), Lib.hid (es.out.alloc _)⟩, ?_⟩
        simp
        omega
      · have hii : i = m := by omega
        subst hii
        have j1 : ¬ (i : Int) < (i : Int) := by omega
        go_wp2
        exact hK' _ _ rfl ⟨_, kb, by kernel_rfl, ⟨h0.out, h1.out, h2.out⟩, ⟨hkb.out, _, hBU, hown.out⟩, GM.sm hS.out Hu.out.2.2.2⟩
  obtain ⟨v, kb, f⟩ := y
  dsimp only at h3 ⊢
  unfold cFrame
  show cps _ _ _ _ _ _
  repeat refine cps_seq O ?_
  (refine cps_region O ?_; simp only [List.size_toArray, List.length_cons, List.length_nil, Nat.reduceAdd, Nat.zero_add, List.range, List.range.loop])
  refine valE O rfl (v) rfl rfl (fun _ => by simp [go_sem]) (fun _ => by go_simp; try (first | rfl | (simp [*]))) ?_; try walk_nrm
  refine valE O rfl (v) rfl rfl (fun _ => by simp [go_sem]) (fun _ => by go_simp; try (first | rfl | (simp [*]))) ?_; try walk_nrm
  refine cpsR_nil O ?_
  exact cps_ret O (hQ _ _ _ _ ⟨.inr rfl, v, retE O rfl rfl rfl, Hq.out v kb w3 h3 (by have := HBW.out; omega)⟩)
end
end Go.Proofs.Ytdedmmjmiakidaa
/- Plain words: what counting comes to, as settled reckons it. No condition. -/
namespace Go.Proofs.Ytdedmmjmiakidaa
open Go.ConcN (sumTo upd sumTo_upd upd_ne upd_same sumTo_congr)
theorem sum_mod (N : Nat) (f : Nat → Nat) (M : Nat) : sumTo N (fun j => f j % M) % M = sumTo N f % M := by
  induction N with
  | zero => rfl
  | succ N ih =>
    show (sumTo N (fun j => f j % M) + f N % M) % M = (sumTo N f + f N) % M
    rw [Nat.add_mod, ih, Nat.mod_mod, ← Nat.add_mod]
theorem sum_pick (n c S : Nat) (h : c < n) : sumTo n (fun j => if c = j then S else 0) = S := by
  have key : ∀ N, sumTo N (fun j => if c = j then S else 0) = if c < N then S else 0 := fun N => by
    induction N with
    | zero => rfl
    | succ N ih =>
      show sumTo N (fun j => if c = j then S else 0) + (if c = N then S else 0) = _
      rw [ih]
      by_cases e : c = N
      · subst e; simp
      · by_cases e2 : c < N
        · simp [e, e2, show c < N + 1 by omega]
        · simp [e, e2, show ¬ c < N + 1 by omega]
  rw [key, if_pos h]
theorem sum_add (N : Nat) (f g : Nat → Nat) : sumTo N (fun j => f j + g j) = sumTo N f + sumTo N g := by
  induction N with
  | zero => rfl
  | succ N ih =>
    show sumTo N (fun j => f j + g j) + (f N + g N) = sumTo N f + f N + (sumTo N g + g N)
    omega
theorem sum_shards (n m : Nat) (hn : 0 < n) (S : Nat → Nat) : sumTo n (fun j => sumTo m (fun k => if k % n = j then S k else 0)) = sumTo m S := by
  induction m with
  | zero => exact sumTo_zero n
  | succ m ih =>
    show sumTo n (fun j => sumTo m (fun k => if k % n = j then S k else 0) + (if m % n = j then S m else 0)) = sumTo m S + S m
    rw [sum_add, ih, sum_pick _ _ _ (Nat.mod_lt _ hn)]
theorem sum_list (l : List Nat) : l.sum = sumTo l.length (fun j => l.getD j 0) := by
  have key : ∀ N, N ≤ l.length → (l.take N).sum = sumTo N (fun j => l.getD j 0) := fun N => by
    induction N with
    | zero => intro _; rfl
    | succ N ih =>
      intro hN
      rw [take_snoc _ _ (by omega), List.sum_append, ih (by omega)]
      show _ + [l.getD N 0].sum = sumTo N _ + l.getD N 0
      simp
  have := key l.length (Nat.le_refl _)
  rwa [List.take_length] at this
theorem wsum_mod (l : List Nat) : wsum l = l.sum % 18446744073709551616 := by
  have key : ∀ (l : List Nat) (c : Nat), c < 18446744073709551616 → l.foldl (fun s x => (s + x) % 18446744073709551616) c = (c + l.sum) % 18446744073709551616 := fun l => by
    induction l with
    | nil => intro c hc; simp; omega
    | cons x l ih =>
      intro c hc
      rw [List.foldl_cons, ih _ (Nat.mod_lt _ (by decide)), List.sum_cons]
      omega
  have := key l 0 (by decide)
  rw [Nat.zero_add] at this
  exact this
variable {m N : Nat} {Z : Nat → List Nat} {rows : List (List Nat)} {a : TSt}
theorem cat_sum (Z : Nat → List Nat) (m : Nat) : (cat Z m).sum = sumTo m (fun k => (Z k).sum) := by
  induction m with
  | zero => rfl
  | succ m ih => rw [cat, List.sum_append, ih]; rfl
theorem cat_cnt (Z : Nat → List Nat) (m b : Nat) : ((cat Z m).countP fun x => Lib.bitLen x == b) = sumTo m (fun k => cntB b (Z k)) := by
  induction m with
  | zero => rfl
  | succ m ih =>
    rw [cat, List.countP_append, ih]
    show _ = sumTo m _ + cntB b (Z m)
    rw [cntB, List.countP_eq_length_filter]
theorem mxL_fold (l : List Nat) : mxL l = l.foldr max 0 := by
  have key : ∀ (l : List Nat) (c : Nat), l.foldl max c = max c (l.foldr max 0) := fun l => by
    induction l with
    | nil => intro c; simp
    | cons x l ih => intro c; rw [List.foldl_cons, ih, List.foldr_cons]; omega
  unfold mxL
  rw [key]
  simp
theorem cat_max (Z : Nat → List Nat) (m : Nat) : (cat Z m).foldr max 0 = maxTo m (fun k => mxL (Z k)) := by
  induction m with
  | zero => rfl
  | succ m ih =>
    rw [cat, foldr_max_append, ih, ← mxL_fold]
    rfl
theorem done_hist (h : Done rows N a) (hl : rows.length = m) (hr : ∀ k, k < m → rowOf rows k = Z k) : a.h = hspec (cat Z m) := by
  refine ext67 _ _ h.hl (hspec_len _) fun i hi => ?_
  rw [hspec_get _ _ hi]
  unfold hspecAt
  by_cases h1 : i < 65
  · rw [if_pos h1, h.c i h1, cat_cnt, hl]
    congr 1
    exact sumTo_congr fun k hk => by rw [hr k hk]
  · rw [if_neg h1]
    by_cases h2 : i = 65
    · subst h2
      rw [if_pos rfl, h.t, cat_sum, hl]
      congr 1
      exact sumTo_congr fun k hk => by rw [hr k hk]
    · rw [if_neg h2, show i = 66 by omega, h.m, cat_max, hl]
      exact maxTo_congr fun k hk => by rw [hr k hk]
theorem done_sum (hN : 0 < N) (h : Done rows N a) (hl : rows.length = m) (hr : ∀ k, k < m → rowOf rows k = Z k) : wsum a.s = hspecAt (cat Z m) 65 := by
  unfold hspecAt
  rw [if_neg (by decide), if_pos rfl, wsum_mod, sum_list, h.sl, cat_sum]
  have e1 : sumTo N (fun j => a.s.getD j 0) = sumTo N (fun j => sumTo m (fun k => if k % N = j then (Z k).sum else 0) % 18446744073709551616) := sumTo_congr fun j hj => by
    rw [h.s j hj, hl]
    congr 1
    exact sumTo_congr fun k hk => by rw [hr k hk]
  rw [e1, sum_mod, sum_shards _ _ hN]
end Go.Proofs.Ytdedmmjmiakidaa
/- Plain words: TallyStill, by goroutine 0. No condition. -/
namespace Go.Proofs.Ytdedmmjmiakidaa
open Go.Conc Go.RowKit
instance gm_pr {P T A H n : Nat} {m hm : List Nat} : GM (Pr P T A H n m hm) := ⟨fun u u' h q => { q with rP := gm_row.keep u u' h q.rP, tal := { q.tal with rT := gm_row.keep u u' h q.tal.rT, rA := gm_row.keep u u' h q.tal.rA }, his := ⟨gm_row.keep u u' h q.his.r, q.his.len⟩ }⟩
instance gm_rows {X : Nat → Prop} {b off n : Nat} {V : Nat → Value} : GM (RowsArgX X b off n V) := ⟨fun u u' h q => ⟨fun r hr => (h.cell (a := ⟨b, off + r, none⟩) (q.old (by omega))).trans (q.hd r hr), fun r hr => by
  obtain ⟨m, a, l, c, e, h1, h2, h3⟩ := q.ok r hr
  exact ⟨m, a, l, c, e, h1, h2, fun j hj => by
    obtain ⟨b, o, x, g1, g2, g3, g4, g5⟩ := h3 j hj
    exact ⟨b, o, x, g1, Nat.lt_of_lt_of_le g2 h.size, g3, (h.cell (a := ⟨b, o + j, none⟩) g2).trans g4, g5⟩⟩, fun h0 => Nat.lt_of_lt_of_le (q.old h0) h.size⟩⟩
instance gm_ro {g m : Nat} {Z : Nat → List Nat} {A : Nat → Option Addr} {C : Nat → Nat} : GM (RowsOwn g m Z A C) := ⟨fun u u' h q => ⟨fun r hr => (h.cell (a := ⟨g, r, none⟩) (q.gl (by omega))).trans (q.hd r hr), fun h0 => Nat.lt_of_lt_of_le (q.gl h0) h.size, q.le, q.lt, fun r hr j hj => by
  obtain ⟨b, o, h1, h2, h3⟩ := q.dat r hr j hj
  exact ⟨b, o, h1, Nat.lt_of_lt_of_le h2 h.size, (h.cell (a := ⟨b, o + j, none⟩) h2).trans h3⟩⟩⟩
/-- What lies there ahead of the play. -/
structure TallM (W0 : World) (B X g m : Nat) (Z : Nat → List Nat) (A2 : Nat → Option Addr) (C2 : Nat → Nat) (P T A H N : Nat) (u : World) : Prop where
  bad : Row u X falses 68
  rows : RowsOwn g m Z A2 C2 u
  pr : Pr P T A H N (List.replicate N 0) (List.replicate 67 0) u
  since : Since B (Gr W0) u
instance gm_tallM {W0 : World} {B X g m : Nat} {Z : Nat → List Nat} {A2 : Nat → Option Addr} {C2 : Nat → Nat} {P T A H N : Nat} : GM (TallM W0 B X g m Z A2 C2 P T A H N) := ⟨fun u u' h q => ⟨gm_row.keep u u' h q.bad, gm_ro.keep u u' h q.rows, gm_pr.keep u u' h q.pr, gm_since.keep u u' h q.since⟩⟩
/-- What is handed in. -/
structure StArg (X : Nat → Prop) (a0 : Option Addr) (b0 f0 n0 : Nat) (xs : Nat → Int) (a1 : Option Addr) (b1 f1 n1 : Nat) (V : Nat → Value) (W0 : World) : Prop where
  ha0 : 0 < n0 → a0 = some ⟨b0, f0, none⟩
  hn0 : n0 ≤ 9223372036854775807
  ints : IntsArg b0 f0 n0 xs W0
  ha1 : 0 < n1 → a1 = some ⟨b1, f1, none⟩
  hn1 : n1 ≤ 9223372036854775807
  rows : RowsArgX X b1 f1 n1 V W0
section lists
variable {m : Nat} {Z : Nat → List Nat}
def rowsZ (m : Nat) (Z : Nat → List Nat) : List (List Nat) := (List.range m).map Z
theorem rowsZ_len : (rowsZ m Z).length = m := by simp [rowsZ]
theorem rowsZ_at {k : Nat} (hk : k < m) : rowOf (rowsZ m Z) k = Z k := by simp [rowOf, rowsZ, List.getD_eq_getElem?_getD, hk]
theorem rowsZ_mem {r : List Nat} (h : r ∈ rowsZ m Z) : ∃ k, k < m ∧ r = Z k := by
  obtain ⟨k, h1, rfl⟩ := List.mem_map.1 h
  exact ⟨k, List.mem_range.1 h1, rfl⟩
end lists
theorem eq_sixteen (w : World) : Sem.run Try.prog (Op.equalIn 10000 68 (.agg #[.bool false, .bool false, .bool false, .bool false, .bool false, .bool false, .bool false, .bool false, .bool false, .bool false, .bool false, .bool false, .bool false, .bool false, .bool false, .bool false]) (.agg #[.bool false, .bool false, .bool false, .bool false, .bool false, .bool false, .bool false, .bool false, .bool false, .bool false, .bool false, .bool false, .bool false, .bool false, .bool false, .bool false])) w = .ok true w := by kernel_rfl
/-- The places that a counting play finds. -/
def stLay (C0 P X g m cap : Nat) (A2 : Nat → Option Addr) (C2 : Nat → Nat) (kb : Nat → Nat) (w : World) : CLay := { rb := C0 + 1, pb := C0, xb := C0 + 2, P := P, bad := X, kb := kb, R := g, ro := 0, rc := cap, ea := A2, ec := C2, old := fun b => w.heap[b]? }
section mem
variable {C0 P X g m cap T H N A B S1 : Nat} {Z : Nat → List Nat} {A2 : Nat → Option Addr} {C2 kb : Nat → Nat} {w : World} {vth : Value} {W0 : World}
theorem st_cmem (hb : BoxM P X C0 m cap (some ⟨g, 0, none⟩) w) (hf : FunM m C0 vth kb w) (ht : TallM W0 B X g m Z A2 C2 P T A H N w) : CMem (stLay C0 P X g m cap A2 C2 kb w) T H N (rowsZ m Z) w where
  rb := by
    have := hb.rb
    unfold CLay.rowsV
    rw [rowsZ_len]
    exact this
  pb := hb.pb
  xb := hb.xb
  p := ht.pr.rP
  bad := ht.bad
  kb := fun k hk => (hf.boxes k (by rw [rowsZ_len] at hk; exact hk)).1
  rs := fun k hk => by
    rw [rowsZ_len] at hk
    have := ht.rows.hd k hk
    unfold CLay.row
    rw [rowsZ_at hk]
    show w.cell? ⟨g, 0 + k, none⟩ = _
    rw [Nat.zero_add]
    exact this
  row := fun k hk i hi => by
    rw [rowsZ_len] at hk
    rw [rowsZ_at hk] at hi ⊢
    obtain ⟨b, o, h1, h2, h3⟩ := ht.rows.dat k hk i hi
    exact ⟨⟨b, o, none⟩, h1, rfl, h3⟩
  keep := fun _ _ _ _ _ => rfl
theorem st_trep (ht : TallM W0 B X g m Z A2 C2 P T A H N w) : TRep T A H N (zeroT N) w where
  tal := ht.pr.tal
  his := ht.pr.his
  len := by simp [zeroT]
  ls := fun x hx => by
    obtain ⟨_, rfl⟩ := List.mem_replicate.1 hx
    decide
  lh := fun x hx => by
    obtain ⟨_, rfl⟩ := List.mem_replicate.1 hx
    decide
  hT := by have := ht.pr.tH; omega
  hA := by have := ht.pr.tH; have := ht.pr.aT; omega
/-- The rows' blocks. -/
def rowBlk (m : Nat) (Z : Nat → List Nat) (A2 : Nat → Option Addr) (b : Nat) : Prop := ∃ k, k < m ∧ 0 < (Z k).length ∧ ∃ a, A2 k = some a ∧ b = a.block
theorem st_foot {b : Nat} (h : (stLay C0 P X g m cap A2 C2 kb w).foot (rowsZ m Z) b) : b = C0 + 1 ∨ b = C0 ∨ b = C0 + 2 ∨ b = P ∨ b = X ∨ (∃ k, k < m ∧ b = kb k) ∨ b = g ∨ rowBlk m Z A2 b := by
  rcases h with h | h | h | h | h | ⟨k, hk, h⟩ | ⟨_, h⟩ | ⟨k, hk, h0, a, ha, h⟩
  · exact .inl h
  · exact .inr (.inl h)
  · exact .inr (.inr (.inl h))
  · exact .inr (.inr (.inr (.inl h)))
  · exact .inr (.inr (.inr (.inr (.inl h))))
  · exact .inr (.inr (.inr (.inr (.inr (.inl ⟨k, by rw [rowsZ_len] at hk; exact hk, h⟩)))))
  · exact .inr (.inr (.inr (.inr (.inr (.inr (.inl h))))))
  · rw [rowsZ_len] at hk
    rw [rowsZ_at hk] at h0
    exact .inr (.inr (.inr (.inr (.inr (.inr (.inr ⟨k, hk, by omega, a, ha, h⟩))))))
def stThr (L : CLay) (B T A H N m : Nat) (rows : List (List Nat)) : List (Thr (cK L B T A H N rows).core) := (List.range m).map fun k => ⟨57, #[.pointer (some ⟨L.rb, 0, none⟩), .pointer (some ⟨L.kb k, 0, none⟩), .pointer (some ⟨L.pb, 0, none⟩), .pointer (some ⟨L.xb, 0, none⟩)], fun σ => (σ, cntNext rows N k 0)⟩
theorem rows_of_cmem {u : World} {w : World} (h : CMem (stLay C0 P X g m cap A2 C2 kb w) T H N (rowsZ m Z) u) (hm0 : 0 < m) (hZ : ∀ r, r < m → (Z r).length ≤ 40) (hlt : ∀ r, r < m → ∀ x ∈ Z r, x < 18446744073709551616) : RowsOwn g m Z A2 C2 u where
  hd := fun r hr => by
    have := h.rs r (by rw [rowsZ_len]; exact hr)
    unfold CLay.row at this
    rw [rowsZ_at hr] at this
    have e : (stLay C0 P X g m cap A2 C2 kb w).ro + r = r := Nat.zero_add r
    rw [e] at this
    exact this
  gl := fun _ => by
    obtain ⟨o, ho, _⟩ := h.real (b := g) (.inr (.inr (.inr (.inr (.inr (.inr (.inl ⟨by rw [rowsZ_len]; omega, rfl⟩)))))))
    exact (Array.getElem?_eq_some_iff.1 ho).1
  le := hZ
  lt := hlt
  dat := fun r hr j hj => by
    obtain ⟨⟨b, o, sp⟩, h1, h2, h3⟩ := h.row r (by rw [rowsZ_len]; exact hr) j (by rw [rowsZ_at hr]; exact hj)
    have h2 : sp = none := h2
    subst h2
    rw [rowsZ_at hr] at h3
    obtain ⟨ob, hob, _⟩ := h.real (b := b) (.inr (.inr (.inr (.inr (.inr (.inr (.inr ⟨r, by rw [rowsZ_len]; exact hr, by rw [rowsZ_at hr]; omega, _, h1, rfl⟩)))))))
    exact ⟨b, o, h1, (Array.getElem?_eq_some_iff.1 hob).1, h3⟩
set_option maxRecDepth 100000 in
set_option maxHeartbeats 4000000 in
open Classical in
/-- The play of TallyStill. -/
theorem still_play {Wm : Machine → Trace → Prop} (hW : Back Try.prog Wm) {ol : List Int} {ao av : Option Addr} {co cv S4 : Nat} (hbx : BoxM P X C0 m cap (some ⟨g, 0, none⟩) w) (hfn : FunM m C0 (.slice av m cv) kb w) (hor : w.ownsRow S4 3 1 (.slice ao ol.length co) ol.length (ol.map (Value.int .i64))) (htm : TallM W0 B X g m Z A2 C2 P T A H N w)
    (hBA : B ≤ A) (hP1 : P < S1) (hg1 : S1 ≤ g) (hgX : g < X) (hX4 : X < S4) (h4C : S4 ≤ C0) (hoC : ∀ b, (Value.slice ao ol.length co).ownBlock = some b → S4 ≤ b ∧ b < C0) (hZX : ∀ r, r < m → 0 < (Z r).length → ∀ a, A2 r = some a → a.block < B ∨ S1 ≤ a.block) (hRX : ∀ r, r < m → 0 < (Z r).length → ∀ a, A2 r = some a → a.block < X)
    (hm0 : 0 < m) (hm6 : m ≤ 6) (hN0 : 0 < N) (hN8 : N ≤ 8) (hZ10 : ∀ r, r < m → (Z r).length ≤ 10) (hol2 : ol.length ≤ 2000) (hol3 : ∀ k ∈ ol, k < 9223372036854775808) {Qc : LX → Value → World → Prop}
    (hq : ∀ Wg k (ta : Option Addr) (tn tc : Nat) (a : TSt) w', B ≤ Wg → w.heap.size ≤ w'.heap.size → Done (rowsZ m Z) N a → Kn ⟨some Wg, k⟩ (fun u => (TRep T A H N a u ∧ CMem (stLay C0 P X g m cap A2 C2 kb w) T H N (rowsZ m Z) u) ∧ Since B (Gr W0) u) w' → Qc ⟨some Wg, k⟩ (.tuple #[.agg #[.slice ta tn tc, .slice none 0 0], .int .i64 0]) w') :
    cpsC (envL Wm) 37 #[.slice ao ol.length co, .slice av m cv] Qc ⟨none, 1⟩ w := by
  have hcm := st_cmem (kb := kb) hbx hfn htm
  have htr := st_trep htm
  have haT := htm.pr.aT
  have htH := htm.pr.tH
  have hhP := htm.pr.hP
  have hlt : ∀ x ∈ rowsZ m Z, ∀ y ∈ x, y < 18446744073709551616 := fun r hr => by
    obtain ⟨k, hk, rfl⟩ := rowsZ_mem hr
    exact htm.rows.lt k hk
  have hl10 : ∀ x ∈ rowsZ m Z, x.length ≤ 10 := fun r hr => by
    obtain ⟨k, hk, rfl⟩ := rowsZ_mem hr
    exact hZ10 k hk
  obtain ⟨L, hL⟩ : ∃ L, L = stLay C0 P X g m cap A2 C2 kb w := ⟨_, rfl⟩
  rw [← hL] at hcm hq
  obtain ⟨bs, hbs, hfo⟩ := hfn.own
  obtain ⟨Y, hY⟩ : ∃ Y : Core, Y = (cK L B T A H N (rowsZ m Z)).core := ⟨_, rfl⟩
  obtain ⟨o₀, ho₀⟩ : ∃ o₀ : Own, o₀ = ⟨fun x => if (x < B ∧ ¬ rowBlk m Z A2 x) ∨ (Value.slice ao ol.length co).ownBlock = some x ∨ (Value.slice av m cv).ownBlock = some x then w.heap[x]? else none, w.os, w.output⟩ := ⟨_, rfl⟩
  have hin : ∀ x, ((x < B ∧ ¬ rowBlk m Z A2 x) ∨ (Value.slice ao ol.length co).ownBlock = some x ∨ (Value.slice av m cv).ownBlock = some x) → o₀ x = w.heap[x]? := fun x hx => by rw [ho₀]; exact if_pos hx
  have hout : ∀ x, ¬ ((x < B ∧ ¬ rowBlk m Z A2 x) ∨ (Value.slice ao ol.length co).ownBlock = some x ∨ (Value.slice av m cv).ownBlock = some x) → o₀ x = none := fun x hx => by rw [ho₀]; exact if_neg hx
  have hosn : w.os = o₀.os ∧ w.output = o₀.out := by rw [ho₀]; exact ⟨rfl, rfl⟩
  clear ho₀
  have hseen : ∀ x o', o₀ x = some o' → ((x < B ∧ ¬ rowBlk m Z A2 x) ∨ (Value.slice ao ol.length co).ownBlock = some x ∨ (Value.slice av m cv).ownBlock = some x) ∧ w.heap[x]? = some o' := fun x o' hx => by
    by_cases hc : (x < B ∧ ¬ rowBlk m Z A2 x) ∨ (Value.slice ao ol.length co).ownBlock = some x ∨ (Value.slice av m cv).ownBlock = some x
    · exact ⟨hc, by rw [← hin x hc]; exact hx⟩
    · rw [hout x hc] at hx; cases hx
  have hB1 : B ≤ w.heap.size := by have := htm.pr.rP.lt; omega
  have ncell : ∀ {v : Value} {n bs e : Nat} {xs : List Value} {x : Nat} {o' : Obj}, w.ownsRow bs e 1 v n xs → v.ownBlock = some x → w.heap[x]? = some o' → ∀ cap buf cl y r t, o' ≠ .chan cap buf cl y r t := fun ho hx hw cap buf cl y r t e => by
    obtain ⟨c, hc⟩ := own_type ho _ hx
    rw [hc] at hw
    rw [e] at hw
    cases hw
  have hstart : (stThr L B T A H N m (rowsZ m Z)).map (·.start) = (cntStart (rowsZ m Z) N).map fun q σ => (σ, q) := by
    unfold stThr cntStart
    rw [rowsZ_len, List.map_map, List.map_map]
    rfl
  have hplay : (∀ p ∈ (playF (Y := (cK L B T A H N (rowsZ m Z)).core) ((stThr L B T A H N m (rowsZ m Z)).map (·.start)) ol (zeroT N, ())).ps, p = none) ∧ Done (rowsZ m Z) N (playF (Y := (cK L B T A H N (rowsZ m Z)).core) ((stThr L B T A H N m (rowsZ m Z)).map (·.start)) ol (zeroT N, ())).a.1 := by
    rw [hstart]
    exact cnt_play (B := B) (T := T) (A := A) (H := H) (Z := L.kept T H N (rowsZ m Z)) hN0 (by rw [rowsZ_len]; omega) hl10 hlt ol
  obtain ⟨hp1, hp2⟩ := hplay
  have hcc : ∀ b, L.foot (rowsZ m Z) b → b = C0 + 1 ∨ b = C0 ∨ b = C0 + 2 ∨ b = P ∨ b = X ∨ (∃ k, k < m ∧ b = kb k) ∨ b = g ∨ rowBlk m Z A2 b := fun b hb => by rw [hL] at hb; exact st_foot hb
  have hrbk : ∀ b, rowBlk m Z A2 b → (b < B ∨ S1 ≤ b) ∧ b < X := fun b ⟨k, hk, h0, a, ha, e⟩ => by
    subst e
    exact ⟨hZX k hk h0 a ha, hRX k hk h0 a ha⟩
  have hkbn : ∀ k, k < m → C0 + 3 ≤ kb k ∧ (Value.slice av m cv).ownBlock ≠ some (kb k) := fun k hk => ⟨(hfn.boxes k hk).2, own_ne_row hfo (hfn.boxes k hk).1 (by decide)⟩
  refine play_c (x := ⟨none, 1⟩) (Y := (cK L B T A H N (rowsZ m Z)).core) (ths := stThr L B T A H N m (rowsZ m Z)) (order := ol) (o₀ := o₀) (a := (zeroT N, ())) hW rfl (by decide) (by decide) hosn (fun x o' hx => ?_) hB1 (fun v hv => ?_) (fun x hx => ?_) (by omega) hol3 (fun v hv => ?_) (fun x hx => ?_) (by simp [stThr]; omega) (by simp [stThr]; omega) (fun t ht => ?_) ⟨htr, hcm, fun x hx hf => ?_⟩ (fun x hx => ?_) hp1 (fun Wg B0 vt w' hWg hB0 hsz hpl => ?_)
  · obtain ⟨h1, h2⟩ := hseen x o' hx
    refine ⟨h2, ?_⟩
    rcases h1 with h1 | h1 | h1
    · exact .inl h1.1
    · exact .inr (ncell hor h1 h2)
    · exact .inr (ncell hfo h1 h2)
  · exact ownsRow_of (own_weak hor (Nat.zero_le _)) fun b hb => by
      have hl := (hor.lt b hb).2
      have e1 : w.heap[b]? = some w.heap[b] := Array.getElem?_eq_getElem hl
      rw [e1]
      exact hv b _ (by rw [hin b (.inr (.inl hb))]; exact e1)
  · rw [hin x (.inr (.inl hx))]
    have hl := (hor.lt x hx).2
    rw [Array.getElem?_eq_getElem hl]
    simp
  · have hv1 : v.ownsRow 0 tFn 1 (.slice av m cv) m (cntVs (C0 + 1) C0 (C0 + 2) kb m) := ownsRow_of (own_weak hfo (Nat.zero_le _)) fun b hb => by
      have hl := (hfo.lt b hb).2
      have e1 : w.heap[b]? = some w.heap[b] := Array.getElem?_eq_getElem hl
      rw [e1]
      exact hv b _ (by rw [hin b (.inr (.inr hb))]; exact e1)
    have e1 : (stThr L B T A H N m (rowsZ m Z)).length = m := by simp [stThr]
    have e2 : (stThr L B T A H N m (rowsZ m Z)).map Thr.val = cntVs (C0 + 1) C0 (C0 + 2) kb m := by
      unfold stThr cntVs
      rw [List.map_map, hL]
      rfl
    rw [e1, e2]
    exact hv1
  · rw [hin x (.inr (.inr hx))]
    have hl := (hfo.lt x hx).2
    rw [Array.getElem?_eq_getElem hl]
    simp
  · obtain ⟨k, hk, rfl⟩ := List.mem_map.1 ht
    exact cnt_thr hN0 (by omega) (by rw [rowsZ_len]; omega) (fun r hr => by have := hl10 r hr; omega) hlt (by rw [rowsZ_len]; exact List.mem_range.1 hk)
  · have hx : x = T ∨ x = A ∨ x = H := hx
    rcases hcc x hf with h | h | h | h | h | ⟨k, hk, h⟩ | h | h
    · omega
    · omega
    · omega
    · omega
    · omega
    · have := (hkbn k hk).1; omega
    · omega
    · have := (hrbk x h).1; omega
  · refine hout x fun hc => ?_
    have hx : (x = T ∨ x = A ∨ x = H) ∨ L.foot (rowsZ m Z) x := hx
    rcases hx with hx | hx
    · rcases hc with hc | hc | hc
      · omega
      · have := hoC x hc; omega
      · have := (hfo.lt x hc).1; omega
    · rcases hcc x hx with h | h | h | h | h | ⟨k, hk, h⟩ | h | h
      · rcases hc with hc | hc | hc
        · omega
        · have := hoC x hc; omega
        · have := (hfo.lt x hc).1; omega
      · rcases hc with hc | hc | hc
        · omega
        · have := hoC x hc; omega
        · have := (hfo.lt x hc).1; omega
      · rcases hc with hc | hc | hc
        · omega
        · have := hoC x hc; omega
        · have := (hfo.lt x hc).1; omega
      · rcases hc with hc | hc | hc
        · omega
        · have := hoC x hc; omega
        · have := (hfo.lt x hc).1; omega
      · rcases hc with hc | hc | hc
        · omega
        · have := hoC x hc; omega
        · have := (hfo.lt x hc).1; omega
      · have hk2 := hkbn k hk
        rcases hc with hc | hc | hc
        · omega
        · have := hoC x hc; omega
        · rw [h] at hc; exact hk2.2 hc
      · rcases hc with hc | hc | hc
        · omega
        · have := hoC x hc; omega
        · have := (hfo.lt x hc).1; omega
      · have hr := hrbk x h
        rcases hc with hc | hc | hc
        · exact hc.2 h
        · have := hoC x hc; omega
        · have := (hfo.lt x hc).1; omega
  · have hk := hpl.knX (N := 1 + m) htm.since (by omega) (fun x hx => by
      by_cases hr : rowBlk m Z A2 x
      · refine .inr fun u hu => ?_
        obtain ⟨k, hk, h0, a, ha, e⟩ := hr
        have hcu : CMem L T H N (rowsZ m Z) u := hu.2.1
        have := hcu.keep k (by rw [rowsZ_len]; exact hk) (by rw [rowsZ_at hk]; omega) a (by rw [hL]; exact ha)
        rw [e, this, hL]
        rfl
      · exact .inl (hin x (.inl ⟨hx, hr⟩))) hosn hsz
    have e1 : (stThr L B T A H N m (rowsZ m Z)).length = m := by simp [stThr]
    rw [e1]
    obtain ⟨ta, tc, hvt⟩ := own_form0 hpl.trace
    subst hvt
    exact hq Wg (1 + m) ta _ tc _ w' (by omega) hsz hp2 (hk.mono fun u hu => ⟨⟨hu.1.1, hu.1.2.1⟩, hu.2.2⟩)
end mem
section
variable {Wm : Machine → Trace → Prop} {W0 : World}
set_option maxRecDepth 100000 in
set_option maxHeartbeats 8000000 in
theorem still_b (hW : Back Try.prog Wm) {a0 : Option Addr} {b0 f0 n0 c0 : Nat} {xs : Nat → Int} {a1 : Option Addr} {b1 f1 n1 c1 : Nat} {V : Nat → Value} {sh : Int} (hA : StArg (fun b => b < W0.heap.size) a0 b0 f0 n0 xs a1 b1 f1 n1 V W0) {Q : LX → Exit → Array Value → World → Prop}
    (hq : ∀ Wg k t' w', W0.heap.size ≤ Wg → t'.getD 6 undef = .bool true → Kn ⟨some Wg, k⟩ (Gr W0) w' → Q ⟨some Wg, k⟩ .ret t' w') :
    cps (envL Wm) (Try.f8.body.getD .skip) Q ⟨none, 1⟩ (#[.slice a0 n0 c0, .slice a1 n1 c1, .int .i64 sh] ++ Array.replicate 49 undef) W0 := by
  have O := envL_ok (W := Wm)
  obtain ⟨B, hB⟩ : ∃ B, B = W0.heap.size := ⟨_, rfl⟩
  have HA := Lib.hid hA
  rw [← hB] at hq
  have Hq := Lib.hid hq
  clear hq hA
  refine cps_opaque fun Q' hQ => ?_
  walk_nrmf Try.f8
  have h : Kn (⟨none, 1⟩ : LX) (Since B (Gr W0)) W0 := by rw [hB]; exact (Kn.of_true rfl (Gr.refl W0)).since
  have HB := Lib.hid hB
  clear hB
  repeat refine cps_seq O ?_
  (refine cps_region O ?_; simp only [List.size_toArray, List.length_cons, List.length_nil, Nat.reduceAdd, Nat.zero_add, List.range, List.range.loop])
  refine valE O rfl (.bool false) rfl rfl (fun _ => by simp [go_sem]) (fun _ => by go_simp; try (first | rfl | (simp [*]))) ?_; try walk_nrm
  refine cpsR_nil O ?_
  show cps _ _ _ _ _ _
  repeat refine cps_seq O ?_
  obtain ⟨N, hN⟩ : ∃ N : Nat, N = 1 + wi sh 8 := ⟨_, rfl⟩
  have hN1 : 0 < N := by omega
  have hN8 : N ≤ 8 := by have := wi_lt sh 8 (by decide); omega
  have HN := Lib.hid hN
  clear hN
  refine aloneG (α := Nat × Nat × Nat × Nat) (fun y => #[.slice a0 n0 c0, .slice a1 n1 c1, .int .i64 sh, undef, undef, undef, .bool false, .pointer (some ⟨y.1, 0, none⟩), undef, undef, undef, .int .i64 sh, .int .i64 (wi sh 8), .int .i64 N, .pointer (some ⟨y.1, 0, none⟩), undef, undef, undef, undef, undef, undef, undef, undef, undef, undef, undef, undef, undef, undef, undef, undef, undef, undef, undef, undef, undef, undef, undef, undef, undef, undef, undef, undef, undef, undef, undef, undef, undef, undef, undef, undef, undef]) (fun y u => B ≤ y.2.2.1 ∧ y.1 < u.heap.size ∧ Pr y.1 y.2.1 y.2.2.1 y.2.2.2 N (List.replicate N 0) (List.replicate 67 0) u ∧ Since B (Gr W0) u) h (by kernel_rfl) (fun u hu hs K hK => ?_) fun y w1 h1 hz1 => ?_
  · have Hu := Lib.hid hu
    clear hu
    go_wp2_with fail
    refine (within_c sh 8 (by decide) (by decide) u).mono ?_
    rintro e u1 ⟨rfl, rfl⟩
    have hn : wrap64 (1 + wi sh 8) = (N : Int) := by have := HN.out; have := wi_lt sh 8 (by decide); unfold wrap64; omega
    have hn' : IntKind.i64.wrap (1 + wi sh 8) = (N : Int) := by have := HN.out; rw [IntKind.wrap_i64]; omega
    go_wp2_with fail
    refine (made_c N hN1 (by omega) u).mono ?_
    rintro e u2 ⟨P, T, A, H, hAB, rfl, hp, hsm⟩
    have Hp := Lib.hid hp
    have Hsm := Lib.hid hsm
    clear hp hsm
    go_wp2
    refine hK (P, T, A, H) _ _ rfl rfl ⟨?_, Hp.out.rP.lt, Hp.out, GM.sm Hsm.out Hu.out⟩
    obtain ⟨u0, _, q2, q3⟩ := Hu.out
    have := q2.size
    show B ≤ A
    omega
  obtain ⟨P, T, A, H⟩ := y
  dsimp only at h1 ⊢
  obtain ⟨hBA, h1⟩ := h1.sep
  clear h
  show cps _ _ _ _ _ _
  have hord : A < T ∧ T < H ∧ H < P ∧ P < w1.heap.size := by
    obtain ⟨u, hu, hs⟩ := h1.tell
    exact ⟨hu.2.1.aT, hu.2.1.tH, hu.2.1.hP, by rw [← hs]; exact hu.1⟩
  repeat refine cps_seq O ?_
  refine aloneG (α := Nat) (fun y => #[.slice a0 n0 c0, .slice a1 n1 c1, .int .i64 sh, undef, undef, undef, .bool false, .pointer (some ⟨P, 0, none⟩), undef, undef, undef, .int .i64 sh, .int .i64 (wi sh 8), .int .i64 N, .pointer (some ⟨P, 0, none⟩), .pointer (some ⟨P, 0, none⟩), .bool false, .bool false, .bool true, .bool false, .bool false, undef, undef, undef, undef, undef, undef, undef, undef, undef, undef, undef, undef, undef, undef, undef, undef, undef, undef, undef, undef, undef, undef, undef, undef, undef, undef, undef, undef, undef, undef, undef]) (fun y u => Pr P T A H N (List.replicate N 0) (List.replicate 67 0) u ∧ Since B (Gr W0) u) h1 (by kernel_rfl) (fun u hu hs K hK => ?_) fun y w2 h2 hz2 => ?_
  · have Hu := Lib.hid hu
    clear hu
    go_wp2_with fail
    refine (awake_c u).mono ?_
    rintro e u1 ⟨rfl, hsm⟩
    have Hsm := Lib.hid hsm
    clear hsm
    go_wp2
    exact hK 0 _ _ rfl rfl ⟨GM.sm Hsm.out Hu.out.2.1, GM.sm Hsm.out Hu.out.2.2⟩
  clear h1
  show cps _ _ _ _ _ _
  refine cps_cond O (v := false) rfl ?_
  simp only [Bool.false_eq_true, if_false]
  refine cps_skip O ?_
  show cps _ _ _ _ _ _
  repeat refine cps_seq O ?_
  obtain ⟨S1, hS1⟩ : ∃ S1, S1 = w2.heap.size := ⟨_, rfl⟩
  have hPS : P < S1 := by omega
  have hBS : B ≤ S1 := by omega
  refine aloneG (α := (Nat × Nat × Nat) × (Nat → List Nat) × (Nat → Option Addr) × (Nat → Nat)) (fun y => #[.slice a0 n0 c0, .slice (some ⟨y.1.1, 0, none⟩) y.1.2.1 y.1.2.2, .int .i64 sh, undef, undef, undef, .bool false, .pointer (some ⟨P, 0, none⟩), undef, undef, undef, .int .i64 sh, .int .i64 (wi sh 8), .int .i64 N, .pointer (some ⟨P, 0, none⟩), .pointer (some ⟨P, 0, none⟩), .bool false, .bool false, .bool true, .bool false, .bool false, .slice a1 n1 c1, .slice (some ⟨y.1.1, 0, none⟩) y.1.2.1 y.1.2.2, undef, undef, undef, undef, undef, undef, undef, undef, undef, undef, undef, undef, undef, undef, undef, undef, undef, undef, undef, undef, undef, undef, undef, undef, undef, undef, undef, undef, undef])
    (fun y u => (0 < y.1.2.1 ∧ y.1.2.1 ≤ 6 ∧ S1 ≤ y.1.1 ∧ (∀ r, r < y.1.2.1 → (y.2.1 r).length ≤ 10) ∧ ∀ r, r < y.1.2.1 → 0 < (y.2.1 r).length → ∀ a, y.2.2.1 r = some a → a.block < B ∨ S1 ≤ a.block) ∧ RowsOwn y.1.1 y.1.2.1 y.2.1 y.2.2.1 y.2.2.2 u ∧ Pr P T A H N (List.replicate N 0) (List.replicate 67 0) u ∧ Since B (Gr W0) u) h2 (by kernel_rfl) (fun u hu hs K hK => ?_) fun y w3 h3 hz3 => ?_
  · have Hu := Lib.hid hu
    clear hu
    have hrows : RowsArgX (fun b => b < B ∨ S1 ≤ b) b1 f1 n1 V u := by
      have h := HA.out.rows
      have hg : Gr W0 u := Hu.out.2.now
      have h := gm_rows.keep W0 u hg h
      exact ⟨h.hd, fun r hr => by
        obtain ⟨m, a, l, c, e, h1, h2, h3⟩ := h.ok r hr
        exact ⟨m, a, l, c, e, h1, h2, fun j hj => by
          obtain ⟨b, o, x, g1, g2, g3, g4, g5⟩ := h3 j hj
          exact ⟨b, o, x, g1, g2, g3, g4, .inl (by rw [HB.out]; exact g5)⟩⟩, h.old⟩
    have HR := Lib.hid hrows
    clear hrows
    go_wp2_with fail
    refine (few_cX (X := fun b => b < B ∨ S1 ≤ b) a1 b1 f1 n1 c1 10 V HA.out.ha1 HA.out.hn1 (by decide) (by decide) u (fun b hb => .inr (by omega)) HR.out).mono ?_
    rintro e u1 ⟨v0, xs, rfl, hown, hx0, hx6, hgood, hsm⟩
    obtain ⟨g, cap, hv0⟩ := own_form hown hx0
    subst hv0
    obtain ⟨m, hm⟩ : ∃ m, m = xs.length := ⟨_, rfl⟩
    rw [← hm] at hown hx0 hx6
    rw [← hm]
    obtain ⟨Z, A2, C2, q1, q2, q3⟩ := rows_of_fewX (by decide) hm hown hgood
    have HQ := Lib.hid (And.intro q1 (And.intro q2 q3))
    have hg := (hown.lt g rfl).1
    have HG := Lib.hid hg
    have Hsm := Lib.hid hsm
    clear hsm hown hgood q1 q2 q3 hm hg
    go_wp2
    exact hK ((g, m, cap), Z, A2, C2) _ _ rfl rfl ⟨⟨hx0, hx6, by have := HG.out; show S1 ≤ g; omega, HQ.out.2.1, HQ.out.2.2⟩, HQ.out.1, GM.sm Hsm.out Hu.out.1, GM.sm Hsm.out Hu.out.2⟩
  obtain ⟨⟨g, m, cap⟩, Z, A2, C2⟩ := y
  dsimp only at h3 ⊢
  obtain ⟨⟨hm0, hm6, hgS, hZ10, hZX⟩, h3⟩ := h3.sep
  clear h2
  show cps _ _ _ _ _ _
  repeat refine cps_seq O ?_
  obtain ⟨X, hX⟩ : ∃ X, X = w3.heap.size := ⟨_, rfl⟩
  have hRX : ∀ r, r < m → 0 < (Z r).length → ∀ a, A2 r = some a → a.block < X := fun r hr h0 a ha => by
    obtain ⟨u, hu, hs⟩ := h3.tell
    obtain ⟨b, o, h1, h2, _⟩ := hu.1.dat r hr 0 h0
    rw [ha] at h1
    obtain rfl := Option.some.inj h1
    rw [hX, ← hs]; exact h2
  have hgX : g < X := by
    obtain ⟨u, hu, hs⟩ := h3.tell
    rw [hX, ← hs]; exact hu.1.gl hm0
  have hSX : S1 ≤ X := by omega
  refine aloneG (α := Nat) (fun y => #[.slice a0 n0 c0, .slice (some ⟨g, 0, none⟩) m cap, .int .i64 sh, undef, undef, undef, .bool false, .pointer (some ⟨P, 0, none⟩), .pointer (some ⟨X, 0, none⟩), undef, undef, .int .i64 sh, .int .i64 (wi sh 8), .int .i64 N, .pointer (some ⟨P, 0, none⟩), .pointer (some ⟨P, 0, none⟩), .bool false, .bool false, .bool true, .bool false, .bool false, .slice a1 n1 c1, .slice (some ⟨g, 0, none⟩) m cap, undef, undef, undef, undef, undef, undef, undef, undef, undef, undef, undef, undef, undef, undef, undef, undef, undef, undef, undef, undef, undef, undef, undef, undef, undef, undef, undef, undef, undef]) (fun _ u => TallM W0 B X g m Z A2 C2 P T A H N u) h3 (by kernel_rfl) (fun u hu hs K hK => ?_) fun y w4 h4 hz4 => ?_
  · have hsm : Sm (fun _ => False) u (u.alloc (.cells falses 68 (0, 0))) := (Sm.refl _ _).alloc _
    have hrw : Row (u.alloc (.cells falses 68 (0, 0))) X falses 68 := by rw [hX, ← hs]; exact Row.new u _ _
    have Hall := Lib.hid (TallM.mk hrw (GM.sm hsm hu.1) (GM.sm hsm hu.2.1) (GM.sm hsm hu.2.2))
    have HS := Lib.hid (show u.heap.size = X by rw [hX, hs])
    clear hu hsm hrw hs
    go_wp2
    rw [HS.out]
    exact hK 0 _ _ rfl rfl Hall.out
  clear h3
  have hXw : X < w4.heap.size := by
    obtain ⟨u, hu, hs⟩ := h4.tell
    rw [← hs]; exact hu.bad.lt
  show cps _ _ _ _ _ _
  repeat refine cps_seq O ?_
  (refine cps_region O ?_; simp only [List.size_toArray, List.length_cons, List.length_nil, Nat.reduceAdd, Nat.zero_add, List.range, List.range.loop])
  refine valE O rfl (.slice a0 n0 c0) rfl rfl (fun _ => by simp [go_sem]) (fun _ => by go_simp; try (first | rfl | (simp [*]))) ?_; try walk_nrm
  refine valE O rfl (.slice (some ⟨g, 0, none⟩) m cap) rfl rfl (fun _ => by simp [go_sem]) (fun _ => by go_simp; try (first | rfl | (simp [*]))) ?_; try walk_nrm
  refine valE O rfl (.int .i64 m) rfl rfl (fun _ => by simp [go_sem]) (fun _ => by go_simp; try (first | rfl | (simp [*]))) ?_; try walk_nrm
  obtain ⟨S4, hS4⟩ : ∃ S4, S4 = w4.heap.size := ⟨_, rfl⟩
  refine callE O rfl (f := 31) (vals := #[.slice a0 n0 c0, .int .i64 m]) rfl rfl rfl Try.func31 rfl rfl rfl ?_
  refine order_g h4 a0 b0 f0 n0 c0 m xs HA.out.ha0 HA.out.hn0 (by omega) (fun u hu => gm_ints.keep W0 u hu.since.now HA.out.ints) fun vo w5 h5 hz5 => ?_
  rw [← hS4] at h5
  clear h4
  obtain ⟨ol, hol⟩ : ∃ ol, ol = ordL n0 xs m := ⟨_, rfl⟩
  have hol2 : ol.length ≤ 2000 := by rw [hol, ordL_len]; omega
  have hol3 : ∀ k ∈ ol, k < 9223372036854775808 := fun k hk => by
    rw [hol] at hk
    obtain ⟨j, _, rfl⟩ := List.mem_map.1 hk
    have := wi_lt (xs j) (m + 1) (by omega)
    omega
  rw [← hol] at h5
  clear hol
  obtain ⟨ao, co, hvo⟩ : ∃ a c, vo = .slice a ol.length c := by
    obtain ⟨u, hu, _⟩ := h5.tell
    exact own_form0 hu.1
  subst hvo
  try walk_nrm
  refine valE O rfl (.pointer (some ⟨P, 0, none⟩)) rfl rfl (fun _ => by simp [go_sem]) (fun _ => by go_simp; try (first | rfl | (simp [*]))) ?_; try walk_nrm
  refine valE O rfl (.slice (some ⟨g, 0, none⟩) m cap) rfl rfl (fun _ => by simp [go_sem]) (fun _ => by go_simp; try (first | rfl | (simp [*]))) ?_; try walk_nrm
  obtain ⟨C0, hC0⟩ : ∃ C0, C0 = w5.heap.size := ⟨_, rfl⟩
  have hSC : S4 ≤ C0 := by omega
  have hoC : ∀ b, (Value.slice ao ol.length co).ownBlock = some b → S4 ≤ b ∧ b < C0 := fun b hb => by
    obtain ⟨u, hu, hs⟩ := h5.tell
    have := hu.1.lt b hb
    rw [hC0, ← hs]; exact this
  refine callE O rfl (f := 28) (vals := #[.pointer (some ⟨P, 0, none⟩), .slice (some ⟨g, 0, none⟩) m cap, .pointer (some ⟨X, 0, none⟩)]) rfl rfl rfl Try.func28 rfl rfl rfl ?_
  refine counting_g h5 P X (some ⟨g, 0, none⟩) m cap (by omega) fun vth kb w6 h6 hz6 => ?_
  rw [← hC0] at h6
  clear h5
  try walk_nrm
  obtain ⟨av, cv, hvv⟩ : ∃ a c, vth = .slice a m c := by
    obtain ⟨u, hu, _⟩ := h6.tell
    obtain ⟨bs, _, hf⟩ := hu.2.1.own
    exact own_form0 hf
  subst hvv
  have hT := Kn.true rfl h6
  obtain ⟨hbx, hfn, hor, htm⟩ := hT
  refine callE O rfl (f := 37) (vals := #[.slice ao ol.length co, .slice av m cv]) rfl rfl rfl Try.func37 rfl rfl rfl ?_
  refine still_play hW hbx hfn hor htm hBA hPS hgS hgX (by omega) hSC hoC hZX hRX hm0 hm6 hN1 hN8 hZ10 hol2 hol3 fun Wg k ta tn tc a w7 hWg hsz hdone h7 => ?_
  have hlt64 : ∀ r, r < m → ∀ x ∈ Z r, x < 18446744073709551616 := htm.rows.lt
  have hfin : ∀ t' w', t'.getD 6 undef = .bool true → Kn ⟨some Wg, k⟩ (Gr W0) w' → Q ⟨some Wg, k⟩ .ret t' w' := fun t' w' h1 h2 => Hq.out Wg k t' w' hWg h1 h2
  have Hf := Lib.hid hfin
  obtain ⟨L, hL⟩ : ∃ L, L = stLay C0 P X g m cap A2 C2 kb w6 := ⟨_, rfl⟩
  rw [← hL] at h7
  have HL := Lib.hid hL
  clear hfin Hq h6 hbx hfn hor htm hL hoC
  show cpsR (envL Wm) _ _ _ ⟨some Wg, k⟩ _ _
  try walk_nrm
  refine valE O rfl (.tuple #[.agg #[.slice ta tn tc, .slice none 0 0], .int .i64 0]) rfl rfl (fun _ => by simp [go_sem]) (fun _ => by go_simp; try (first | rfl | (simp [*]))) ?_; try walk_nrm
  refine valE O rfl (.agg #[.slice ta tn tc, .slice none 0 0]) rfl rfl (fun _ => by simp [go_sem]) (fun _ => by go_simp; try (first | rfl | (simp [*]))) ?_; try walk_nrm
  refine valE O rfl (.int .i64 0) rfl rfl (fun _ => by simp [go_sem]) (fun _ => by go_simp; try (first | rfl | (simp [*]))) ?_; try walk_nrm
  obtain ⟨pl, hpl⟩ : ∃ pl, pl = w7.heap.size := ⟨_, rfl⟩
  have hgm : GM fun u => (TRep T A H N a u ∧ CMem L T H N (rowsZ m Z) u) ∧ Since B (Gr W0) u := ⟨fun u u' h q => ⟨(gm_rep (J := talJob T A H N) (a := a)).keep u u' h q.1.1 |> fun z => ⟨z, CMem.frame (fun b hb => by obtain ⟨o, ho, _⟩ := q.1.2.real hb; exact h.block b (Array.getElem?_eq_some_iff.1 ho).1) q.1.2⟩, gm_since.keep u u' h q.2⟩⟩
  have hfl : ∀ b, ((b = T ∨ b = A ∨ b = H) ∨ L.foot (rowsZ m Z) b) → b < pl := fun b hb => by
    obtain ⟨u, hu, hs⟩ := h7.tell
    rw [hpl, ← hs]
    rcases hb with hb | hb
    · obtain ⟨o, ho, _⟩ := (talJob T A H N).real a u b hu.1.1 hb
      exact (Array.getElem?_eq_some_iff.1 ho).1
    · obtain ⟨o, ho, _⟩ := hu.1.2.real hb
      exact (Array.getElem?_eq_some_iff.1 ho).1
  have hBpl : B ≤ pl := by have := hfl A (.inl (.inr (.inl rfl))); omega
  refine opK (M' := fun u => Row u pl #[.slice none 0 0, .slice none 0 0] 97 ∧ ((TRep T A H N a u ∧ CMem L T H N (rowsZ m Z) u) ∧ Since B (Gr W0) u)) h7 (.pointer (some ⟨pl, 0, none⟩)) rfl (by kernel_rfl) rfl (fun u hu hs => ⟨u.alloc (Obj.cells #[.slice none 0 0, .slice none 0 0] 97), .inl ?_, ?_⟩) fun w8 h8 _ => ?_
  · rw [hpl, ← hs]; go_simp
  · have hg : Gr u (u.alloc (Obj.cells #[.slice none 0 0, .slice none 0 0] 97)) := Gr.of_sm0 (F := fun _ => False) ((Sm.refl _ _).alloc _) fun _ h => h.elim
    exact ⟨by rw [hpl, ← hs]; exact Row.new u _ _, hgm.keep u _ hg hu⟩
  clear h7 hpl
  try walk_nrm
  refine opK (M' := fun u => Row u pl #[.slice ta tn tc, .slice none 0 0] 97 ∧ ((TRep T A H N a u ∧ CMem L T H N (rowsZ m Z) u) ∧ Since B (Gr W0) u)) h8 undef rfl (by kernel_rfl) rfl (fun u hu hs => ⟨(u.setCell ⟨pl, 0, none⟩ (.slice ta tn tc)).setCell ⟨pl, 1, none⟩ (.slice none 0 0), .inr ⟨?_, rfl⟩, ?_⟩) fun w9 h9 _ => ?_
  · have hc0 := hu.1.cell 0
    have hf0 := hu.1.free 0
    have h1 := hu.1.set 0 (.slice ta tn tc)
    have hc1 := h1.cell 1
    have hf1 := h1.free 1
    go_simp
  · have hkeep : ∀ x, x < pl → ((u.setCell ⟨pl, 0, none⟩ (.slice ta tn tc)).setCell ⟨pl, 1, none⟩ (.slice none 0 0)).heap[x]? = u.heap[x]? := fun x hx =>
      (Below.heap_setCell _ _ _ _ (fun e => by have e : x = pl := e; omega)).trans (Below.heap_setCell _ _ _ _ (fun e => by have e : x = pl := e; omega))
    exact ⟨(hu.1.set 0 (.slice ta tn tc)).set 1 (.slice none 0 0), ⟨(talJob T A H N).frame a u _ (fun x hx => hkeep x (hfl x (.inl hx))) hu.2.1.1, CMem.frame (fun x hx => hkeep x (hfl x (.inr hx))) hu.2.1.2⟩, hu.2.2.sm (((Sm.refl (fun b => b = pl) _).setCell rfl _).setCell rfl _) fun x hx => by omega⟩
  clear h8
  try walk_nrm
  refine valE O rfl (.int .i64 0) rfl rfl (fun _ => by simp [go_sem]) (fun _ => by go_simp; try (first | rfl | (simp [*]))) ?_; try walk_nrm
  refine cpsR_nil O ?_
  show cps _ _ _ _ _ _
  repeat refine cps_seq O ?_
  have hL := HL.out
  refine aloneF (φ := fun _ t => t.getD 6 undef = .bool true) (M' := fun u => Since B (Gr W0) u) h9 (by kernel_rfl) (fun u hu hs K hK => ?_) fun t' w10 h10 hz10 => ?_
  · have hcm : CMem (stLay C0 P X g m cap A2 C2 kb w6) T H N (rowsZ m Z) u := by rw [← hL]; exact hu.2.1.2
    have hro := rows_of_cmem hcm hm0 (fun r hr => by have := hZ10 r hr; omega) hlt64
    have hhist := done_hist hdone (Z := Z) (m := m) rowsZ_len (fun k hk => rowsZ_at hk)
    have hsum := done_sum hN1 hdone (Z := Z) (m := m) rowsZ_len (fun k hk => rowsZ_at hk)
    have hHis := hu.2.1.1.his
    rw [hhist] at hHis
    clear hX hS1 hS4 hC0
    have heq := eq_sixteen
    have HS := Lib.hid (settled_c P T A H N a.s m g cap Z A2 C2 u hcm.p hu.2.1.1.tal hHis hro hm6 hdone.sl hsum)
    have hb := hcm.bad
    have c0 := hu.1.cell 1
    have Hu := Lib.hid hu
    have HB := Lib.hid hb
    clear hu hb hcm hro hhist hsum hHis hL
    have hfe : ∀ i, i < 16 → u.cell? ⟨X, i, none⟩ = some (.bool false) := fun i hi => by
      have hx := HB.out.cell i
      have hx : u.cell? ⟨X, i, none⟩ = falses[i]? := hx
      rw [hx]
      simp [falses, hi]
    go_wp2_with fail
    refine HS.out.mono ?_
    rintro e u1 ⟨rfl, hsm⟩
    have Hsm := Lib.hid hsm
    clear hsm heq hfe c0
    go_wp2
    exact hK _ _ rfl rfl (GM.sm Hsm.out Hu.out.2.2)
  · obtain ⟨ht, h10⟩ := h10.sep
    show cps _ _ _ _ _ _
    exact cps_ret O (hQ _ _ _ _ (Hf.out _ _ ht (h10.mono fun u hu => hu.now)))
end
end Go.Proofs.Ytdedmmjmiakidaa
/- PROVED: patchbaylaw11.TallyStill answers true whatever it is given, in whatever order its threads' steps come by the scheduler, and leaves its arguments as they were. No condition. -/
namespace Go.Proofs.Ytdedmmjmiakidaa.tallyStill
open Go.Conc Go.ChangeShapes Go.WideShapes Go.ChangeAt Go.RowKit Go.Deep
set_option linter.unusedVariables false

theorem run {a0 : Option Addr} {b0 f0 n0 c0 : Nat} {xs : Nat → Int} {a1 : Option Addr} {b1 f1 n1 c1 : Nat} {V : Nat → Value} {sh : Int} (W : World) (hA : StArg (fun b => b < W.heap.size) a0 b0 f0 n0 xs a1 b1 f1 n1 V W) :
    GoodEnd Try.prog (fun v W' => v = .bool true ∧ Gr W W') (solo (G (Frame.enter Try.prog 8 #[.slice a0 n0 c0, .slice a1 n1 c1, .int .i64 sh] .normal) []) W) #[] := by
  refine law_good (c := Try.f8.body.getD .skip) Try.func8 rfl (by decide) ?_
  simp only [Try.ntmps8]
  refine still_b back_goodEnd hA fun Wg k t' w' hWg ht h => ⟨rfl, .bool true, fun w₁ hR => ⟨#[], ?_, ⟨Nat.le_refl _, by simp⟩⟩, fun w₁ hR => ⟨rfl, gr_of_kn hWg (h.at hR)⟩⟩
  rw [Sem.runT_eq, results_tmp (t := 6) rfl, events_results_tmp (t := 6) rfl, ht]

section
variable {H : Type} {enc : TypeId × Value → H}
set_option maxRecDepth 100000 in
/-- A slice of slices of numbers, opened. -/
theorem open_u64rows {W : World} {b0 : Nat} {v : Value} {d : DataW H} {p : List MemPlace}
    (hok : Value.okWide Try.prog W .any b0 34 v) (h : DataW.Trod enc Try.prog W 0 (fun _ => true) true 34 v d p) :
    ∃ a b off len cap V, v = .slice a len cap ∧ (0 < len → a = some ⟨b, off, none⟩) ∧ len ≤ 9223372036854775807 ∧ RowsArgX (fun b => b < W.heap.size) b off len V W := by
  obtain ⟨a0, len, cap, rfl⟩ := okWide_slice Try.underlying34 hok
  obtain ⟨fuel, hf⟩ := h
  rcases open_int_rows Try.underlying34 Try.underlying38 Try.underlying23 (by kernel_rfl) (by kernel_rfl) hf with ⟨hcs, hx⟩ | ⟨a, len', cap', A, L, C, Z, hcs, _, hl, hm, hx, hr⟩
  · simp [Value.cells] at hcs
    obtain ⟨rfl, rfl, rfl⟩ := hcs
    exact ⟨none, 0, 0, 0, 0, fun _ => undef, rfl, fun h => absurd h (by decide), by omega, ⟨fun r h => absurd h (by omega), fun r h => absurd h (by omega), fun h => absurd h (by decide)⟩⟩
  · simp [Value.cells] at hcs
    obtain ⟨rfl, rfl, rfl⟩ := hcs
    unfold maxLen at hm
    by_cases h0 : len = 0
    · subst h0
      exact ⟨some a, 0, 0, 0, cap, fun _ => undef, rfl, fun h => absurd h (by decide), by omega, ⟨fun r h => absurd h (by omega), fun r h => absurd h (by omega), fun h => absurd h (by decide)⟩⟩
    · have c0 := (hr 0 (by omega)).1
      obtain ⟨b, off, rfl, hb, -⟩ := plain_at ⟨_, c0⟩ c0
      have add_p : ∀ (b off k : Nat), (⟨b, off, none⟩ : Addr).add k = ⟨b, off + k, none⟩ := fun b off k => by
        unfold Addr.add
        split <;> simp_all
      refine ⟨_, b, off, len, cap, fun r => .slice (A r) (L r) (C r), rfl, fun _ => rfl, by omega, ⟨fun r h => ?_, fun r h => ?_, fun _ => hb⟩⟩
      · rw [← add_p]
        exact (hr r (by omega)).1
      · obtain ⟨h1, h2, h3, h4, h5, h6, h7⟩ := hr r (by omega)
        refine ⟨L r, A r, L r, C r, rfl, Nat.le_refl _, h2, fun j hj => ?_⟩
        cases hA : A r with
        | none => have := h6 hA; omega
        | some a' =>
          obtain ⟨-, h8⟩ := h7 a' hA
          have d0 := h8 0 (by omega)
          obtain ⟨b', o', rfl, hb', hc'⟩ := plain_at ⟨_, d0⟩ (h8 j (by omega))
          have hz := h5 ((Z r).getD j 0) (by
            have hjl : j < (Z r).length := by omega
            simp [List.getD, hjl])
          simp [Lit.wf, IntKind.min, IntKind.max, IntKind.signed, IntKind.bits] at hz
          refine ⟨b', o', ((Z r).getD j 0).toNat, rfl, hb', by simp only [List.getD_eq_getElem?_getD] at hz ⊢; omega, ?_, hb'⟩
          rw [hc']
          congr 2
          simp only [List.getD_eq_getElem?_getD] at hz ⊢
          omega
end

set_option maxRecDepth 100000 in
theorem good (H : Type) (enc : TypeId × Value → H) (W : World) (base : Nat) (args : Array Value) (ds gs : List (DataW H)) (before : List MemPlace)
    (hval : ∀ (j : Nat) t v, Try.f8.params[j]? = some t → args[j]? = some v → Value.okWide Try.prog W .any base t v)
    (hW : DataW.Whole enc Try.prog Try.f8.params.toList Rows.tallyStillSpec.vars false W args.toList ds gs before) :
    GoodEnd Try.prog (fun v W' => Rows.tallyStillSpec.post enc Try.prog Try.f8 false true false false W args v W') (solo (G (Frame.enter Try.prog 8 args .normal) []) W) #[] := by
  have hW' := hW
  obtain ⟨p, q, hA0, hV, rfl, hfz, hnd⟩ := hW
  have hA : DataW.TrodAll enc Try.prog W 0 (fun _ => true) true Try.f8.params.toList args.toList ds p := hA0
  rw [Try.params8] at hA hval
  obtain ⟨v0, v1, v2, d0, d1, d2, p0, p1, p2, rfl, rfl, rfl, h0, h1, h2⟩ := trodAll_three hA
  obtain ⟨a0, b0, f0, n0, c0, xs, rfl, ha0, hn0, hi⟩ := open_i64s_arg (hval 0 76 v0 rfl rfl) h0
  obtain ⟨a1, b1, f1, n1, c1, V, rfl, ha1, hn1, hr⟩ := open_u64rows (hval 1 34 v1 rfl rfl) h1
  obtain ⟨x2, rfl, rfl, rfl, wx2⟩ := open_int Try.underlying3 (hval 2 3 v2 rfl rfl) h2
  obtain ⟨N, last, o, w', t', g1, g2, g3, g4⟩ := run (sh := x2) W ⟨ha0, hn0, hi, ha1, hn1, hr⟩
  refine ⟨N, last, o, w', t', g1, g2, g3, g4.mono fun v hv => ?_⟩
  obtain ⟨rfl, hg⟩ := hv
  exact law_post_gr laid_out (readable_of _ (by kernel_rfl)) rfl (tb := 4) (by kernel_rfl) Try.underlying4 hW' rfl hg

set_option maxRecDepth 100000 in
theorem lifted (os : Os) (started : os.Started) (H : Type) (enc : TypeId × Value → H) :
    ReturnsInLeavingWide {} Try.checked os 8 .any (Rows.tallyStillSpec.pre6 enc Try.prog Try.f8 Rows.tallyStillRow.domain false) (Rows.tallyStillSpec.post enc Try.prog Try.f8 false true false false) := by
  refine returnsInLeavingWide_of_change_sized (C := Try.checked) own_knob started Try.func8
    (ChangeSpec.witness6 (C := Try.checked) false ⟨#[], #[.slice none 0 0, .slice none 0 0, .int .i64 0], []⟩ 8 (by kernel_rfl) (by kernel_rfl) (by kernel_rfl) (by kernel_rfl)) ?_
  intro W base args ds gs before hval hW _ _ _
  exact good H enc W base args ds gs before hval hW

theorem proved : Rows.TallyStillSaid :=
  OpenClaim.holds_of_wide_leaving 8 Try.f8 rfl rfl rfl rfl rfl rfl rfl ⟨rfl, rfl, rfl, rfl, rfl⟩ rfl rfl rfl rfl rfl (by kernel_rfl) Try.func8 (by kernel_rfl)
    (of_decide_eq_true (by kernel_rfl)) (by unfold Func.isWrapper; first | (rw [if_pos (by decide +kernel)]; kernel_rfl) | (rw [if_neg (by decide +kernel)]; exact ⟨rfl, rfl⟩))
    (fun os started H enc _ => lifted os started H enc)
#print axioms proved
end Go.Proofs.Ytdedmmjmiakidaa.tallyStill
