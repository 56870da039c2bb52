/- octets.Put of bytes and of two bytes, walked alone. -/
import Derived.Test.YthjdnhlckjchgaaLanA
namespace Go.Proofs.Ythjdnhlckjchgaa
open Go.RowKit
set_option linter.unusedVariables false
set_option linter.unusedSimpArgs false

theorem own_read {w : World} {base n : Nat} {e : TypeId} {v : Value} {xs : List Value} (h : w.ownsRow base e 1 v n xs) :
    ∃ a c, v = .slice a n c ∧ n ≤ c ∧ xs.length = n ∧ (0 < n → ∃ g, a = some ⟨g, 0, none⟩ ∧ base ≤ g ∧ g < w.heap.size ∧ ∀ j u, xs[j]? = some u → w.cell? ⟨g, j, none⟩ = some u) := by
  obtain ⟨h1, h2⟩ := h
  rcases h2 with ⟨rfl, rfl⟩ | ⟨g, cap, cur, rfl, hg, hh, hn, hm, hs, ht⟩
  · exact ⟨none, 0, rfl, Nat.le_refl _, by simpa using h1, fun h => absurd h (by omega)⟩
  · refine ⟨_, cap, rfl, hn, by simpa using h1, fun _ => ⟨g, rfl, hg, (Array.getElem?_eq_some_iff.1 hh).1, fun j u hj => ?_⟩⟩
    have hr : Row w g cur e := hh
    rw [hr.cell j]
    rw [← ht, List.getElem?_take] at hj
    split at hj
    · simpa using hj
    · cases hj

theorem add_none (g j : Nat) : ((⟨g, 0, none⟩ : Addr).add j) = ⟨g, j, none⟩ := by unfold Addr.add; split <;> simp_all

theorem own_put (w : World) (bs : List Nat) (k g c : Nat) (hc : c ≤ maxLen) (hk : bs.length ≤ c) (h : w.heap[g]? = some (.cells (splice (ub (List.replicate c 0)) 0 (ub bs)).toArray 5 (0, 0))) (hg : k ≤ g) :
    w.ownsRow k 5 1 (.slice (some ⟨g, 0, none⟩) bs.length c) bs.length (ub bs) := by
  refine ⟨by simp [ub], .inr ⟨g, c, _, rfl, hg, h, hk, hc, ?_, ?_⟩⟩
  · have := length_splice (ub (List.replicate c 0)) 0 (ub bs) (by simp [ub]; omega)
    rw [List.size_toArray, this]
    simp [ub]
  · rw [Nat.mul_one, List.toList_toArray]
    unfold splice
    simp [ub]

/-- What Put leaves behind. -/
def PutR (w : World) (bs : List Nat) (v : Value) (w' : World) : Prop := w'.ownsRow w.heap.size 5 1 v bs.length (ub bs) ∧ Sm (fun _ => False) w w'
def PutPost (w : World) (bs : List Nat) (e : Ending) (w' : World) : Prop := ∃ v, e = .returned v ∧ PutR w bs v w'

/-- The start of out: what b held, in a new row of zeros. -/
theorem copy_start (a : Option Addr) (bs : List Nat) (c k : Nat) (w : World) (hb : bs.length ≤ c) (hc : c ≤ maxLen) (g : Nat) (hg : g < w.heap.size) (hrow : Row w g (ub (List.replicate c 0)).toArray 5)
    (hs : 0 < bs.length → ∃ g, a = some (⟨g, 0, none⟩ : Addr) ∧ ∀ j u, (ub bs)[j]? = some u → w.cell? ⟨g, j, none⟩ = some u) :
    ∃ w2, (Builtin.copy_ #[177, 177] 3 #[.slice (some ⟨g, 0, none⟩) bs.length c, .slice a bs.length k]).run Try.prog w = .ok (goInt bs.length) w2 ∧
      w2.ownsRow g 5 1 (.slice (some ⟨g, 0, none⟩) bs.length c) bs.length (ub bs) ∧ Sm (fun b => b = g) w w2 := by
  have hsz : (Try.prog.info? 5).map (·.size) = some 1 := by kernel_rfl
  by_cases h0 : bs.length = 0
  · have hr := run_copy_none (P := Try.prog) w 177 177 3 5 (some ⟨g, 0, none⟩) a bs.length c bs.length k Try.underlying177 hsz (by rw [h0]; rfl)
    rw [h0] at hr ⊢
    obtain rfl : bs = [] := List.eq_nil_of_length_eq_zero h0
    refine ⟨w, hr, ⟨rfl, .inr ⟨g, c, _, rfl, Nat.le_refl _, hrow, Nat.zero_le _, hc, by simp [ub], by simp [ub]⟩⟩, Sm.refl _ _⟩
  · obtain ⟨g1, rfl, h1⟩ := hs (by omega)
    have hr := run_copy_row (P := Try.prog) w 177 177 3 5 g 0 bs.length c ⟨g1, 0, none⟩ bs.length k _ 5 (ub bs) Try.underlying177 hsz hrow (by rw [ub_len]; exact (Nat.min_self _).symm) (fun j v hj => by rw [add_none]; exact h1 j v hj) (by simp [ub]; omega) (fun v hv => by
      obtain ⟨j, hj⟩ := List.getElem?_of_mem hv
      exact (ub_get bs j v hj).2)
    rw [ub_len] at hr
    refine ⟨_, hr, ⟨by simp [ub], .inr ⟨g, c, _, rfl, Nat.le_refl _, setRow_heap w g _ _ _ _ hrow, hb, hc, ?_, ?_⟩⟩, ⟨rfl, rfl, rfl, by simp [World.setRow], fun j hj hf => setRow_other w g j _ hf⟩⟩
    · simp [ub]
      omega
    · simp [ub]

theorem grow_sm {w wr w4 : World} {o : Obj} {v : Value} (hS : Sm (fun _ => False) w wr) (hv : ∀ k, v.ownBlock = some k → k < wr.heap.size) (hg : (wr.alloc o).grownBy w4 v.ownBlock) (hb : ∀ k, v.ownBlock = some k → w.heap.size ≤ k) :
    Sm (fun _ => False) w w4 :=
  ⟨hg.os.trans hS.os, hg.tape.trans hS.tape, hg.output.trans hS.output, by have h1 := hg.size; have h2 := hS.size; simp at h1; omega, fun j hj hf => (hg.block j (by have := hS.size; simp; omega) (fun e => by have := hb j e.symm; omega)).trans ((Below.heap_alloc _ _ _ (by have := hS.size; omega)).trans (hS.block j hj hf))⟩

set_option maxRecDepth 100000 in
theorem put8 (v : Value) (bs : List Nat) (x : Nat) (hx : x < 256) (hb : bs.length ≤ 100) (w : World) (hv : w.ownsRow 0 5 1 v bs.length (ub bs)) :
    Calls Try.prog 89 #[v, .int .u8 x] w (PutPost w (bs ++ [x])) := by
  obtain ⟨i0, hi, hz0, hz1, hz2⟩ := info_parts info_u8
  obtain ⟨a, c, rfl, hnc, -, hsrc⟩ := own_read hv
  have hmk := make_u8s bs.length (bs.length + 1) (by omega) (by omega) w
  rw [Int.natCast_add] at hmk
  simp only [show ((1 : Nat) : Int) = 1 from rfl] at hmk
  obtain ⟨w1, hw1⟩ : ∃ w1, w1 = w.alloc (.cells (ub (List.replicate (bs.length + 1) 0)).toArray 5) := ⟨_, rfl⟩
  have hW := Row.new w (ub (List.replicate (bs.length + 1) 0)).toArray 5
  have hS := (Sm.refl (fun _ => False) w).alloc (.cells (ub (List.replicate (bs.length + 1) 0)).toArray 5)
  rw [← hw1] at hmk hW hS
  obtain ⟨w2, hcp, hown, hS2⟩ := copy_start a bs (bs.length + 1) c w1 (by omega) (by unfold maxLen; omega) w.heap.size hW.lt hW (fun h => by
    obtain ⟨g1, h1, -, h2, h3⟩ := hsrc h
    exact ⟨g1, h1, fun j u hj => (hS.cell h2 (fun h => h)).trans (h3 j u hj)⟩)
  have hS3 : Sm (fun _ => False) w w2 := ⟨hS2.os.trans hS.os, hS2.tape.trans hS.tape, hS2.output.trans hS.output, Nat.le_trans hS.size hS2.size, fun k hk _ => (hS2.block k (Nat.lt_of_lt_of_le hk hS.size) (by omega)).trans (hS.block k hk (fun h => h))⟩
  have HI := Lib.hid hi
  have HOWN := Lib.hid hown
  have HS := Lib.hid hS3
  clear hi hv hsrc hw1 hW hS hS2 hown hS3
  go_enter Try.func89, Try.ntmps89
  go_wp2_with fail
  refine (width8 w).mono ?_
  rintro e w9 ⟨rfl, rfl⟩
  go_wp2
  go_loopw [5, 6] (fun s5 s6 wr => (s5 = .int .i64 0 ∧ Hid (wr.ownsRow w.heap.size 5 1 s6 bs.length (ub bs)) ∧ Hid (Sm (fun _ => False) w wr)) ∨ (s5 = .int .i64 (-1) ∧ Hid (wr.ownsRow w.heap.size 5 1 s6 (bs.length + 1) (ub (bs ++ [x]))) ∧ Hid (Sm (fun _ => False) w wr))) (fun s5 s6 _ => 1 - (-(intOf s5)).toNat)
  case atStart => exact .inl ⟨rfl, HOWN, HS⟩
  case round =>
    clear hcp hmk HOWN HS
    rcases hrel with ⟨rfl, hown, hS⟩ | ⟨rfl, hown, hS⟩
    · obtain ⟨a5, c5, hv5⟩ := own_form0 hown.out
      subst hv5
      have hx1 : IntKind.u64.wrap (x : Int) = x := by rw [IntKind.wrap_u64]; omega
      have hx2 : IntKind.u8.wrap (x : Int) = x := by rw [IntKind.wrap_u8]; omega
      go_wp2_with (at_builtin; refine wpList_append_own _ rfl (.tmp 24) (.tmp 31) 177 rfl w.heap.size 5 i0 (.int .u8 0) 1 1 Try.underlying177 HI.out hz0 hz1 hz2 rfl (by decide) _ bs.length (ub bs) rfl (hown.out.alloc _) ⟨wr.heap.size, 0, none⟩ 1 1 [.int .u8 x] rfl rfl (new_cells wr [.int .u8 x] 5) (by simp [Value.oneCell']) (by unfold maxLen; omega) (by omega) (by have := hS.out.size; simp; omega) ?_; intro v' w4 hown4 hgr4 _)
      have n1 : Hid (w4.ownsRow w.heap.size 5 1 v' (bs.length + 1) (ub (bs ++ [x]))) := Lib.hid (by rw [ub_app]; exact hown4)
      have n3 : Hid (Sm (fun _ => False) w w4) := Lib.hid (grow_sm hS.out (fun k h => (hown.out.lt k h).2) hgr4 (fun k h => (hown.out.lt k h).1))
      go_roundw
      case rel => exact .inr ⟨rfl, n1, n3⟩
      case measure => decide
    · go_wp2
      go_ret
      exact ⟨_, rfl, by rw [show (bs ++ [x]).length = bs.length + 1 by simp]; exact hown.out, hS.out⟩

set_option maxRecDepth 100000 in
theorem put16 (v : Value) (bs : List Nat) (x : Nat) (hx : x < 65536) (hb : bs.length ≤ 100) (w : World) (hv : w.ownsRow 0 5 1 v bs.length (ub bs)) :
    Calls Try.prog 90 #[v, .int .u16 x] w (PutPost w (bs ++ [x / 256, x % 256])) := by
  obtain ⟨i0, hi, hz0, hz1, hz2⟩ := info_parts info_u8
  obtain ⟨a, c, rfl, hnc, -, hsrc⟩ := own_read hv
  have hmk := make_u8s bs.length (bs.length + 2) (by omega) (by omega) w
  rw [Int.natCast_add] at hmk
  simp only [show ((2 : Nat) : Int) = 2 from rfl] at hmk
  obtain ⟨w1, hw1⟩ : ∃ w1, w1 = w.alloc (.cells (ub (List.replicate (bs.length + 2) 0)).toArray 5) := ⟨_, rfl⟩
  have hW := Row.new w (ub (List.replicate (bs.length + 2) 0)).toArray 5
  have hS := (Sm.refl (fun _ => False) w).alloc (.cells (ub (List.replicate (bs.length + 2) 0)).toArray 5)
  rw [← hw1] at hmk hW hS
  obtain ⟨w2, hcp, hown, hS2⟩ := copy_start a bs (bs.length + 2) c w1 (by omega) (by unfold maxLen; omega) w.heap.size hW.lt hW (fun h => by
    obtain ⟨g1, h1, -, h2, h3⟩ := hsrc h
    exact ⟨g1, h1, fun j u hj => (hS.cell h2 (fun h => h)).trans (h3 j u hj)⟩)
  have hS3 : Sm (fun _ => False) w w2 := ⟨hS2.os.trans hS.os, hS2.tape.trans hS.tape, hS2.output.trans hS.output, Nat.le_trans hS.size hS2.size, fun k hk _ => (hS2.block k (Nat.lt_of_lt_of_le hk hS.size) (by omega)).trans (hS.block k hk (fun h => h))⟩
  have HI := Lib.hid hi
  have HOWN := Lib.hid hown
  have HS := Lib.hid hS3
  clear hi hv hsrc hw1 hW hS hS2 hown hS3
  go_enter Try.func90, Try.ntmps90
  go_wp2_with fail
  refine (width16 w).mono ?_
  rintro e w9 ⟨rfl, rfl⟩
  go_wp2
  go_loopw [5, 6] (fun s5 s6 wr => (s5 = .int .i64 1 ∧ Hid (wr.ownsRow w.heap.size 5 1 s6 bs.length (ub bs)) ∧ Hid (Sm (fun _ => False) w wr)) ∨ (s5 = .int .i64 0 ∧ Hid (wr.ownsRow w.heap.size 5 1 s6 (bs.length + 1) (ub (bs ++ [x / 256]))) ∧ Hid (Sm (fun _ => False) w wr)) ∨ (s5 = .int .i64 (-1) ∧ Hid (wr.ownsRow w.heap.size 5 1 s6 (bs.length + 1 + 1) (ub (bs ++ [x / 256, x % 256]))) ∧ Hid (Sm (fun _ => False) w wr))) (fun s5 s6 _ => 2 - (1 - (intOf s5)).toNat)
  case atStart => exact .inl ⟨rfl, HOWN, HS⟩
  case round =>
    clear hcp hmk HOWN HS
    rcases hrel with ⟨rfl, hown, hS⟩ | ⟨rfl, hown, hS⟩ | ⟨rfl, hown, hS⟩
    · obtain ⟨a5, c5, hv5⟩ := own_form0 hown.out
      subst hv5
      have hx1 : IntKind.u64.wrap (x : Int) = x := by rw [IntKind.wrap_u64]; omega
      have hx2 : IntKind.u8.wrap ((x / 256 : Nat) : Int) = ((x / 256 : Nat) : Int) := by rw [IntKind.wrap_u8]; omega
      go_wp2_with (at_builtin; refine wpList_append_own _ rfl (.tmp 24) (.tmp 31) 177 rfl w.heap.size 5 i0 (.int .u8 0) 1 1 Try.underlying177 HI.out hz0 hz1 hz2 rfl (by decide) _ bs.length (ub bs) rfl (hown.out.alloc _) ⟨wr.heap.size, 0, none⟩ 1 1 [.int .u8 ((x / 256 : Nat) : Int)] rfl rfl (new_cells wr [.int .u8 ((x / 256 : Nat) : Int)] 5) (by simp [Value.oneCell']) (by unfold maxLen; omega) (by omega) (by have := hS.out.size; simp; omega) ?_; intro v' w4 hown4 hgr4 _)
      have n1 : Hid (w4.ownsRow w.heap.size 5 1 v' (bs.length + 1) (ub (bs ++ [x / 256]))) := Lib.hid (by rw [ub_app]; exact hown4)
      have n3 : Hid (Sm (fun _ => False) w w4) := Lib.hid (grow_sm hS.out (fun k h => (hown.out.lt k h).2) hgr4 (fun k h => (hown.out.lt k h).1))
      go_roundw
      case rel => exact .inr (.inl ⟨rfl, n1, n3⟩)
      case measure => decide
    · obtain ⟨a5, c5, hv5⟩ := own_form0 hown.out
      subst hv5
      have hx1 : IntKind.u64.wrap (x : Int) = x := by rw [IntKind.wrap_u64]; omega
      have hx2 : IntKind.u8.wrap (x : Int) = ((x % 256 : Nat) : Int) := by rw [IntKind.wrap_u8]; omega
      go_wp2_with (at_builtin; refine wpList_append_own _ rfl (.tmp 24) (.tmp 31) 177 rfl w.heap.size 5 i0 (.int .u8 0) 1 1 Try.underlying177 HI.out hz0 hz1 hz2 rfl (by decide) _ (bs.length + 1) (ub (bs ++ [x / 256])) rfl (hown.out.alloc _) ⟨wr.heap.size, 0, none⟩ 1 1 [.int .u8 ((x % 256 : Nat) : Int)] rfl rfl (new_cells wr [.int .u8 ((x % 256 : Nat) : Int)] 5) (by simp [Value.oneCell']) (by unfold maxLen; omega) (by omega) (by have := hS.out.size; simp; omega) ?_; intro v' w4 hown4 hgr4 _)
      have n1 : Hid (w4.ownsRow w.heap.size 5 1 v' (bs.length + 1 + 1) (ub (bs ++ [x / 256, x % 256]))) := Lib.hid (by rw [show bs ++ [x / 256, x % 256] = (bs ++ [x / 256]) ++ [x % 256] by simp, ub_app (bs ++ [x / 256])]; exact hown4)
      have n3 : Hid (Sm (fun _ => False) w w4) := Lib.hid (grow_sm hS.out (fun k h => (hown.out.lt k h).2) hgr4 (fun k h => (hown.out.lt k h).1))
      go_roundw
      case rel => exact .inr (.inr ⟨rfl, n1, n3⟩)
      case measure => decide
    · go_wp2
      go_ret
      exact ⟨_, rfl, by rw [show (bs ++ [x / 256, x % 256]).length = bs.length + 1 + 1 by simp]; exact hown.out, hS.out⟩
end Go.Proofs.Ythjdnhlckjchgaa
