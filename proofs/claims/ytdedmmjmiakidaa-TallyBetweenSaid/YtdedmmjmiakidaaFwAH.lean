/- Plain words: the loops of a play: by the order, and what is left. No condition. -/
import Derived.Test.YtdedmmjmiakidaaFwAG
set_option linter.unusedVariables false
set_option linter.unusedSimpArgs false
/- Plain words: the loops of a play: by the order, and what is left. No condition. -/
namespace Go.Proofs.Ytdedmmjmiakidaa
open Go.Conc Go.RowKit
open Go.ConcR (KK wgBlock WgAt stA smA rd wr mk)
/-- What was there ahead of the play is there. -/
def Keeps (o₀ : Own) (w : World) : Prop := ∀ b ob, o₀ b = some ob → w.heap[b]? = some ob
theorem wrap_i64 (k : Int) (h : -9223372036854775808 ≤ k) (h' : k < 9223372036854775808) : IntKind.i64.wrap k = k := by rw [IntKind.wrap_i64]; omega
section
variable {Y : Core} {W : Machine → Trace → Prop} {Wg B0 pb rb off : Nat} {o₀ : Own} {A : MI Y.spec} {w : World} {σ : PSt Y} {γ : Nat → Y.Pg} {vs vt : Value}
theorem callR {X : Spec} {A : MI X} {ops : Array Oper} {i : Nat} {o : Oper} {l : List Nat} {t : Array Value} {Qr : MI X → Array Value → World → Prop} {f : FuncId} {fn : Func} {c : Code} {args : Array Operand} {ats : Array TypeId} {vals : Array Value} (ho : ops[i]? = some o) (hw : Region.wanted o (yielded ops t) = true)
    (hop : o.op = .call { callee := .value (.func f), args, argTypes := ats }) (hf : Try.prog.funcs[f]? = some fn) (hnm : (fn.name == "runtime.NumGoroutine") = false) (hb : fn.body = some c) (hv : args.toList.map (⟨t, []⟩ : Act).eval = vals.toList)
    (h : cpsC (envM W X Wg) f vals (fun n' v w' => cpsR (envM W X Wg) ops l Qr n' ((⟨t, []⟩ : Act).put o.dst v).tmps w') A w) : cpsR (envM W X Wg) ops (i :: l) Qr A t w := by
  have hv' : args.map (⟨t, []⟩ : Act).eval = vals := by
    apply Array.toList_inj.1
    rw [Array.toList_map, hv]
  refine cpsR_enter envM_ok (f := f) (args := vals) ho hw (fun w₁ _ => ⟨#[], ?_, envM_ok.still _ _⟩) h
  show (execOp (⟨t, []⟩ : Act).eval o).runT Try.prog w₁ #[] = _
  rw [Sem.runT_eq]
  refine Prod.ext ?_ ?_
  · simp [go_sem, execOp, hop, resolve, invoke, Deferred.ofValue]
    rw [hv']
    exact run_callF hf hnm hb _ _
  · simp [go_sem, execOp, hop, resolve, invoke, Deferred.ofValue]
    exact ev_callF hf hnm hb _ _ _
theorem LP.rwg {w₁ : World} (h : LP Wg B0 pb off o₀ A σ γ vs vt w) (hR : RWg tWg Wg w w₁) : LP Wg B0 pb off o₀ A σ γ vs vt w₁ := { h with pk := h.pk.rwg h.ok.off hR }
theorem LP.keeps (h : LP Wg B0 pb off o₀ A σ γ vs vt w) : Keeps o₀ w := fun b ob hb => (h.pk.old b ob hb).1
theorem LP.neW (h : LP Wg B0 pb off o₀ A σ γ vs vt w) {b : Nat} (hb : o₀ b ≠ none) : b ≠ Wg := h.pk.neW (.inl hb)
/-- The text behind the starts. -/
noncomputable def c15 : Code := match (Try.f37.body.getD .skip) with
  | .seq _ (.seq _ (.seq _ (.seq _ (.seq _ (.seq _ (.seq c _)))))) => c
  | c => c
set_option maxRecDepth 100000 in
set_option maxHeartbeats 4000000 in
theorem order_c (hW : Back Try.prog W) (h : LP Wg B0 pb off o₀ A σ γ vs vt w) {vo : Value} {order : List Int} (hord : ∀ w, Keeps o₀ w → w.ownsRow 0 3 1 vo order.length (order.map (Value.int .i64))) (hob : ∀ b, vo.ownBlock = some b → o₀ b ≠ none) (hol : order.length < 1000000) (hov : ∀ k ∈ order, k < 9223372036854775808)
    {x1 x2 x3 x5 x6 x9 x10 x11 x12 x13 x14 x15 x16 x17 x18 x19 x20 x21 x22 x23 x24 x25 x26 x27 x28 x29 x30 x31 x32 x33 x34 x35 x36 x37 x38 x39 x40 x41 x42 x43 x44 x45 x46 x47 x48 x49 x50 x51 x52 x53 x54 x55 x56 x57 x58 x59 x60 x61 x62 x63 x64 x65 x66 x67 x68 x69 x70 x71 x72 x73 x74 x75 x76 x77 x78 x79 x80 x81 x82 x83 x84 x85 x86 x87 x88 x89 x90 x91 x92 x93 x94 x95 x96 x97 x98 x99 x100 : Value} {Q : MI Y.spec → Exit → Array Value → World → Prop}
    (hq : ∀ A' γ' vt' w' y49 y50 y51 y52 y53 y54 y13 y55 y56 y57, LP Wg B0 pb off o₀ A' (orderF order σ) γ' vs vt' w' → A'.thr.map (·.1) = A.thr.map (·.1) → Q A' .normal #[vo, x1, x2, x3, .pointer (some ⟨rb, 0, none⟩), x5, x6, .pointer (some ⟨Wg, 0, none⟩), .pointer (some ⟨pb, 0, none⟩), x9, x10, x11, x12, y13, x14, x15, x16, x17, x18, x19, x20, x21, x22, x23, x24, x25, x26, x27, x28, x29, x30, x31, x32, x33, x34, x35, x36, x37, x38, x39, x40, x41, x42, x43, x44, x45, x46, x47, x48, y49, y50, y51, y52, y53, y54, y55, y56, y57, x58, x59, x60, x61, x62, x63, x64, x65, x66, x67, x68, x69, x70, x71, x72, x73, x74, x75, x76, x77, x78, x79, x80, x81, x82, x83, x84, x85, x86, x87, x88, x89, x90, x91, x92, x93, x94, x95, x96, x97, x98, x99, x100] w') :
    cps (envM W Y.spec Wg) c15 Q A #[vo, x1, x2, x3, .pointer (some ⟨rb, 0, none⟩), x5, x6, .pointer (some ⟨Wg, 0, none⟩), .pointer (some ⟨pb, 0, none⟩), x9, x10, x11, x12, x13, x14, x15, x16, x17, x18, x19, x20, x21, x22, x23, x24, x25, x26, x27, x28, x29, x30, x31, x32, x33, x34, x35, x36, x37, x38, x39, x40, x41, x42, x43, x44, x45, x46, x47, x48, x49, x50, x51, x52, x53, x54, x55, x56, x57, x58, x59, x60, x61, x62, x63, x64, x65, x66, x67, x68, x69, x70, x71, x72, x73, x74, x75, x76, x77, x78, x79, x80, x81, x82, x83, x84, x85, x86, x87, x88, x89, x90, x91, x92, x93, x94, x95, x96, x97, x98, x99, x100] w := by
  have O := envM_ok (W := W) (X := Y.spec) (Wg := Wg)
  have hpW : pb ≠ Wg := h.pk.neW (.inr (.inl rfl))
  obtain ⟨ao, co, hvo⟩ : ∃ a c, vo = .slice a order.length c := own_form0 (hord w h.keeps)
  have Hq := Lib.hid hq
  clear hq
  simp only [c15, Try.f37, Option.getD_some]
  subst hvo
  try walk_nrm
  refine cps_seq O ?_
  (refine cps_region O ?_; simp only [List.size_toArray, List.length_cons, List.length_nil, Nat.reduceAdd, Nat.zero_add, List.range, List.range.loop])
  refine valR (.slice ao order.length co) rfl rfl (fun _ => by simp [go_sem]) (fun _ => by go_simp; try (first | rfl | (simp [*]))) ?_; try walk_nrm
  refine valR (.int .i64 order.length) rfl rfl (fun _ => by simp [go_sem]) (fun _ => by go_simp; try (first | rfl | (simp [*]))) ?_; try walk_nrm
  refine valR (.int .i64 0) rfl rfl (fun _ => by simp [go_sem]) (fun _ => by go_simp; try (first | rfl | (simp [*]))) ?_; try walk_nrm
  refine cpsR_nil O ?_
  show cps _ _ _ _ _ _
  refine cps_block O ?_
  refine cps_loopm O (fun m A' t w' => ∃ (i : Nat) (γ' : Nat → Y.Pg) (vt' y52 y53 y54 y13 y55 y56 y57 : Value), m + i = order.length ∧ LP Wg B0 pb off o₀ A' (orderF (order.take i) σ) γ' vs vt' w' ∧ A'.thr.map (·.1) = A.thr.map (·.1) ∧ t = #[.slice ao order.length co, x1, x2, x3, .pointer (some ⟨rb, 0, none⟩), x5, x6, .pointer (some ⟨Wg, 0, none⟩), .pointer (some ⟨pb, 0, none⟩), x9, x10, x11, x12, y13, x14, x15, x16, x17, x18, x19, x20, x21, x22, x23, x24, x25, x26, x27, x28, x29, x30, x31, x32, x33, x34, x35, x36, x37, x38, x39, x40, x41, x42, x43, x44, x45, x46, x47, x48, .slice ao order.length co, .int .i64 order.length, .int .i64 i, y52, y53, y54, y55, y56, y57, x58, x59, x60, x61, x62, x63, x64, x65, x66, x67, x68, x69, x70, x71, x72, x73, x74, x75, x76, x77, x78, x79, x80, x81, x82, x83, x84, x85, x86, x87, x88, x89, x90, x91, x92, x93, x94, x95, x96, x97, x98, x99, x100]) ?_ (m := order.length) ⟨0, γ, vt, _, _, _, _, _, _, _, rfl, h, rfl, rfl⟩
  rintro m A' t w' ⟨i, γ', vt', y52, y53, y54, y13, y55, y56, y57, hmi, hL, hsv, rfl⟩
  by_cases hi : i < order.length
  · have h1 : decide (i < order.length) = true := by simpa using hi
    have h2 : decide ((i : Int) < (order.length : Int)) = true := by simp; omega
    have HL := Lib.hid hL
    clear hL
    refine cps_seq O ?_
    (refine cps_region O ?_; simp only [List.size_toArray, List.length_cons, List.length_nil, Nat.reduceAdd, Nat.zero_add, List.range, List.range.loop])
    refine valR (.bool true) rfl rfl (fun _ => by simp [go_sem]) (fun _ => by go_simp; try (first | rfl | (simp [*]))) ?_; try walk_nrm
    refine cpsR_nil O ?_
    show cps _ _ _ _ _ _
    refine cps_seq O ?_
    refine cps_cond O (v := true) rfl ?_
    simp only [if_true]
    refine cps_skip O ?_
    show cps _ _ _ _ _ _
    refine cps_seq O ?_
    refine cps_block O ?_
    refine cps_seq O ?_
    (refine cps_region O ?_; simp only [List.size_toArray, List.length_cons, List.length_nil, Nat.reduceAdd, Nat.zero_add, List.range, List.range.loop])
    obtain ⟨g, cap, e⟩ := own_form (hord w' HL.out.keeps) (by omega)
    cases e
    obtain ⟨k, hk⟩ : ∃ k, order[i]? = some k := ⟨_, List.getElem?_eq_getElem hi⟩
    have hcell : w'.cell? ⟨g, i, none⟩ = some (.int .i64 k) := by
      have := (hord w' HL.out.keeps).cells (g := g) rfl i (.int .i64 k) (by simp [hk])
      have e : ((⟨g, 0, none⟩ : Addr).add i) = ⟨g, i, none⟩ := by
        unfold Addr.add
        split <;> simp_all
      rw [e] at this
      exact this
    have hgW : g ≠ Wg := HL.out.neW (hob g rfl)
    have h4 : decide (i < order.length) = true := by simpa using hi
    have h7 : i < order.length := hi
    have h8 : (i : Int) < order.length := by omega
    have hkb := hov k (List.mem_of_getElem? hk)
    have Hk := Lib.hid hk
    clear hk
    refine valR (.pointer (some ⟨g, i, none⟩)) rfl rfl (fun _ => by simp [go_sem, *]) (fun _ => by go_simp; try (first | rfl | (simp [*]))) ?_; try walk_nrm
    refine readR (ad := ⟨g, i, none⟩) (v := .int .i64 k) hgW hcell rfl rfl (fun w₁ hc => by simp [go_sem, hc]) (fun w₁ hc => by go_simp) ?_; try walk_nrm
    refine valR (.int .i64 k) rfl rfl (fun _ => by simp [go_sem]) (fun _ => by go_simp; try (first | rfl | (simp [*]))) ?_; try walk_nrm
    refine cpsR_nil O ?_
    show cps _ _ _ _ _ _
    (refine cps_region O ?_; simp only [List.size_toArray, List.length_cons, List.length_nil, Nat.reduceAdd, Nat.zero_add, List.range, List.range.loop])
    refine valR (.int .i64 k) rfl rfl (fun _ => by simp [go_sem]) (fun _ => by go_simp; try (first | rfl | (simp [*]))) ?_; try walk_nrm
    refine callR (f := 69) (vals := #[.pointer (some ⟨pb, 0, none⟩), .int .i64 k]) rfl rfl rfl Try.func69 (by kernel_rfl) rfl rfl ?_
    refine take_any hW HL.out k hkb fun A2 γ2 vt2 w2 hL2 hsv2 => ?_
    have HL2 := Lib.hid hL2
    clear hL2
    try walk_nrm
    refine cpsR_nil O ?_
    show cps _ _ _ _ _ _
    (refine cps_region O ?_; simp only [List.size_toArray, List.length_cons, List.length_nil, Nat.reduceAdd, Nat.zero_add, List.range, List.range.loop])
    have hw1 := wrap_i64 ((i : Int) + 1) (by omega) (by omega)
    refine valR (.int .i64 (i + 1)) rfl rfl (fun _ => by simp [go_sem]) (fun _ => by go_simp; try (first | rfl | (simp [*]))) ?_; try walk_nrm
    refine valR (.int .i64 (i + 1)) rfl rfl (fun _ => by simp [go_sem]) (fun _ => by go_simp; try (first | rfl | (simp [*]))) ?_; try walk_nrm
    refine cpsR_nil O ?_
    have hord' : orderF (order.take (i + 1)) σ = (takeF k (orderF (order.take i) σ)).1 := by
      unfold orderF
      rw [List.take_succ_eq_append_getElem hi, List.foldl_append]
      have : order[i] = k := Option.some.inj ((List.getElem?_eq_getElem hi).symm.trans Hk.out)
      rw [this]
      rfl
    exact ⟨m - 1, by omega, i + 1, γ2, vt2, _, _, _, _, _, _, _, by omega, by rw [hord']; exact HL2.out, hsv2.trans hsv, rfl⟩
  · have h1 : decide (i < order.length) = false := by simpa using hi
    have h2 : decide ((i : Int) < (order.length : Int)) = false := by simp; omega
    have HL := Lib.hid hL
    clear hL
    refine cps_seq O ?_
    (refine cps_region O ?_; simp only [List.size_toArray, List.length_cons, List.length_nil, Nat.reduceAdd, Nat.zero_add, List.range, List.range.loop])
    refine valR (.bool false) rfl rfl (fun _ => by simp [go_sem]) (fun _ => by go_simp; try (first | rfl | (simp [*]))) ?_; try walk_nrm
    refine cpsR_nil O ?_
    show cps _ _ _ _ _ _
    refine cps_seq O ?_
    refine cps_cond O (v := false) rfl ?_
    simp only [Bool.false_eq_true, if_false]
    refine cps_exit O ?_
    have hei : i = order.length := by omega
    have hL' := HL.out
    rw [hei, List.take_length] at hL'
    exact Hq.out A' γ' vt' w' _ _ _ _ _ _ _ _ _ _ hL' hsv
end
end Go.Proofs.Ytdedmmjmiakidaa
/- Plain words: a play goes on till nobody can. No condition. -/
namespace Go.Proofs.Ytdedmmjmiakidaa
open Go.Conc Go.RowKit
open Go.ConcR (KK wgBlock WgAt stA smA rd wr mk)
section
variable {Y : Core} {W : Machine → Trace → Prop} {Wg B0 pb rb off : Nat} {o₀ : Own} {A : MI Y.spec} {w : World} {σ : PSt Y} {γ : Nat → Y.Pg} {vs vt : Value}
/-- The text behind the order. -/
noncomputable def c20 : Code := match (Try.f37.body.getD .skip) with
  | .seq _ (.seq _ (.seq _ (.seq _ (.seq _ (.seq _ (.seq _ (.seq c _))))))) => c
  | c => c
theorem passF_snoc (n : Nat) (σ : PSt Y) : passF (List.range (n + 1)) σ = ((takeF (n : Int) (passF (List.range n) σ).1).1, (takeF (n : Int) (passF (List.range n) σ).1).2 || (passF (List.range n) σ).2) := by
  unfold passF
  rw [List.range_succ, List.foldl_append]
  rfl
set_option maxRecDepth 100000 in
set_option maxHeartbeats 8000000 in
theorem rest_c (hW : Back Try.prog W) (h : LP Wg B0 pb off o₀ A σ γ vs vt w)
    {x0 x1 x2 x3 x5 x6 x9 x10 x11 x12 x13 x14 x15 x16 x17 x18 x19 x20 x21 x22 x23 x24 x25 x26 x27 x28 x29 x30 x31 x32 x33 x34 x35 x36 x37 x38 x39 x40 x41 x42 x43 x44 x45 x46 x47 x48 x49 x50 x51 x52 x53 x54 x55 x56 x57 x58 x59 x60 x61 x62 x63 x64 x65 x66 x67 x68 x69 x70 x71 x72 x73 x74 x75 x76 x77 x78 x79 x80 x81 x82 x83 x84 x85 x86 x87 x88 x89 x90 x91 x92 x93 x94 x95 x96 x97 x98 x99 x100 : Value} {Q : MI Y.spec → Exit → Array Value → World → Prop}
    (hq : ∀ A' γ' vt' w' y14 y58 y59 y60 y61 y62 y63 y64 y15 y65 y66 y67 y68 y69 y70, LP Wg B0 pb off o₀ A' (restF 16385 σ) γ' vs vt' w' → A'.thr.map (·.1) = A.thr.map (·.1) → Q A' .normal #[x0, x1, x2, x3, .pointer (some ⟨rb, 0, none⟩), x5, x6, .pointer (some ⟨Wg, 0, none⟩), .pointer (some ⟨pb, 0, none⟩), x9, x10, x11, x12, x13, y14, y15, x16, x17, x18, x19, x20, x21, x22, x23, x24, x25, x26, x27, x28, x29, x30, x31, x32, x33, x34, x35, x36, x37, x38, x39, x40, x41, x42, x43, x44, x45, x46, x47, x48, x49, x50, x51, x52, x53, x54, x55, x56, x57, y58, y59, y60, y61, y62, y63, y64, y65, y66, y67, y68, y69, y70, x71, x72, x73, x74, x75, x76, x77, x78, x79, x80, x81, x82, x83, x84, x85, x86, x87, x88, x89, x90, x91, x92, x93, x94, x95, x96, x97, x98, x99, x100] w') :
    cps (envM W Y.spec Wg) c20 Q A #[x0, x1, x2, x3, .pointer (some ⟨rb, 0, none⟩), x5, x6, .pointer (some ⟨Wg, 0, none⟩), .pointer (some ⟨pb, 0, none⟩), x9, x10, x11, x12, x13, x14, x15, x16, x17, x18, x19, x20, x21, x22, x23, x24, x25, x26, x27, x28, x29, x30, x31, x32, x33, x34, x35, x36, x37, x38, x39, x40, x41, x42, x43, x44, x45, x46, x47, x48, x49, x50, x51, x52, x53, x54, x55, x56, x57, x58, x59, x60, x61, x62, x63, x64, x65, x66, x67, x68, x69, x70, x71, x72, x73, x74, x75, x76, x77, x78, x79, x80, x81, x82, x83, x84, x85, x86, x87, x88, x89, x90, x91, x92, x93, x94, x95, x96, x97, x98, x99, x100] w := by
  have O := envM_ok (W := W) (X := Y.spec) (Wg := Wg)
  have hpW : pb ≠ Wg := h.pk.neW (.inr (.inl rfl))
  obtain ⟨av, cv, hvs⟩ := own_form0 h.pk.mem.seats
  have hlen : (A.thr.map (·.1)).length = A.thr.length := List.length_map ..
  have hfew := h.few
  obtain ⟨N, hN⟩ : ∃ N, N = A.thr.length := ⟨_, rfl⟩
  rw [hlen, ← hN] at hvs
  subst hvs
  have hlens : ∀ A' : MI Y.spec, A'.thr.map (·.1) = A.thr.map (·.1) → A'.thr.length = N := fun A' e => by
    have := congrArg List.length e
    rw [List.length_map, hlen] at this
    omega
  have HN := Lib.hid hN
  have Hlen := Lib.hid hlen
  have Hlens := Lib.hid hlens
  rw [← hN] at hfew
  have Hq := Lib.hid hq
  clear hq hN hlen hlens
  simp only [c20, Try.f37, Option.getD_some]
  try walk_nrm
  refine cps_seq O ?_
  (refine cps_region O ?_; simp only [List.size_toArray, List.length_cons, List.length_nil, Nat.reduceAdd, Nat.zero_add, List.range, List.range.loop])
  refine valR (.bool true) rfl rfl (fun _ => by simp [go_sem]) (fun _ => by go_simp; try (first | rfl | (simp [*]))) ?_; try walk_nrm
  refine cpsR_nil O ?_
  show cps _ _ _ _ _ _
  refine cps_block O ?_
  refine cps_loopm O (fun m A' t w' => ∃ (fu : Nat) (mo : Bool) (σ' : PSt Y) (γ' : Nat → Y.Pg) (vt' y58 y59 y60 y61 y62 y63 y64 y15 y65 y66 y67 y68 y69 y70 : Value), m = (if mo then fu + 1 else 0) ∧ 16385 ≤ fu + σ'.tr.length ∧ (if mo then restF fu σ' else σ') = restF 16385 σ ∧ LP Wg B0 pb off o₀ A' σ' γ' (.slice av N cv) vt' w' ∧ A'.thr.map (·.1) = A.thr.map (·.1) ∧ t = #[x0, x1, x2, x3, .pointer (some ⟨rb, 0, none⟩), x5, x6, .pointer (some ⟨Wg, 0, none⟩), .pointer (some ⟨pb, 0, none⟩), x9, x10, x11, x12, x13, .bool mo, y15, x16, x17, x18, x19, x20, x21, x22, x23, x24, x25, x26, x27, x28, x29, x30, x31, x32, x33, x34, x35, x36, x37, x38, x39, x40, x41, x42, x43, x44, x45, x46, x47, x48, x49, x50, x51, x52, x53, x54, x55, x56, x57, y58, y59, y60, y61, y62, y63, y64, y65, y66, y67, y68, y69, y70, x71, x72, x73, x74, x75, x76, x77, x78, x79, x80, x81, x82, x83, x84, x85, x86, x87, x88, x89, x90, x91, x92, x93, x94, x95, x96, x97, x98, x99, x100]) ?_ (m := 16386) ⟨16385, true, σ, γ, vt, _, _, _, _, _, _, _, _, _, _, _, _, _, _, rfl, by omega, rfl, h, rfl, rfl⟩
  rintro m A' t w' ⟨fu, mo, σ', γ', vt', y58, y59, y60, y61, y62, y63, y64, y15, y65, y66, y67, y68, y69, y70, rfl, hfu, hfin, hL, hsv, rfl⟩
  have HL := Lib.hid hL
  have Hsv := Lib.hid hsv
  have Hfin := Lib.hid hfin
  clear hL hsv hfin
  cases mo with
  | false =>
    refine cps_seq O ?_
    refine cps_seq O ?_
    (refine cps_region O ?_; simp only [List.size_toArray, List.length_cons, List.length_nil, Nat.reduceAdd, Nat.zero_add, List.range, List.range.loop])
    refine valR (.bool false) rfl rfl (fun _ => by simp [go_sem]) (fun _ => by go_simp; try (first | rfl | (simp [*]))) ?_; try walk_nrm
    refine cpsR_nil O ?_
    show cps _ _ _ _ _ _
    refine cps_cond O (v := false) rfl ?_
    simp only [Bool.false_eq_true, if_false]
    refine cps_exit O ?_
    have hL' := HL.out
    have hf := Hfin.out
    simp only [Bool.false_eq_true, if_false] at hf
    rw [hf] at hL'
    exact Hq.out A' γ' vt' w' _ _ _ _ _ _ _ _ _ _ _ _ _ _ _ hL' Hsv.out
  | true =>
    refine cps_seq O ?_
    refine cps_seq O ?_
    (refine cps_region O ?_; simp only [List.size_toArray, List.length_cons, List.length_nil, Nat.reduceAdd, Nat.zero_add, List.range, List.range.loop])
    refine valR (.bool true) rfl rfl (fun _ => by simp [go_sem]) (fun _ => by go_simp; try (first | rfl | (simp [*]))) ?_; try walk_nrm
    refine cpsR_nil O ?_
    show cps _ _ _ _ _ _
    refine cps_cond O (v := true) rfl ?_
    simp only [if_true]
    refine cps_skip O ?_
    show cps _ _ _ _ _ _
    refine cps_block O ?_
    refine cps_seq O ?_
    (refine cps_region O ?_; simp only [List.size_toArray, List.length_cons, List.length_nil, Nat.reduceAdd, Nat.zero_add, List.range, List.range.loop])
    refine valR (.bool false) rfl rfl (fun _ => by simp [go_sem]) (fun _ => by go_simp; try (first | rfl | (simp [*]))) ?_; try walk_nrm
    refine cpsR_nil O ?_
    show cps _ _ _ _ _ _
    have hp0 : w'.cell? ⟨pb, 0, none⟩ = some (.slice av N cv) := HL.out.pk.pcell.1
    refine cps_seq O ?_
    (refine cps_region O ?_; simp only [List.size_toArray, List.length_cons, List.length_nil, Nat.reduceAdd, Nat.zero_add, List.range, List.range.loop])
    refine valR (.pointer (some ⟨pb, 0, none⟩)) rfl rfl (fun _ => by simp [go_sem]) (fun _ => by go_simp; try (first | rfl | (simp [*]))) ?_; try walk_nrm
    refine readR (ad := ⟨pb, 0, none⟩) (v := .slice av N cv) hpW hp0 rfl rfl (fun w₁ hc => by simp [go_sem, hc]) (fun w₁ hc => by go_simp) ?_; try walk_nrm
    refine valR (.int .i64 N) rfl rfl (fun _ => by simp [go_sem]) (fun _ => by go_simp; try (first | rfl | (simp [*]))) ?_; try walk_nrm
    refine valR (.int .i64 0) rfl rfl (fun _ => by simp [go_sem]) (fun _ => by go_simp; try (first | rfl | (simp [*]))) ?_; try walk_nrm
    refine cpsR_nil O ?_
    show cps _ _ _ _ _ _
    refine cps_block O ?_
    refine cps_loopm O (fun m A2 t w2 => ∃ (i : Nat) (σi : PSt Y) (bp : Bool) (γ2 : Nat → Y.Pg) (vt2 y63 y64 y15 y65 y66 y67 y68 y69 y70 : Value), m + i = N ∧ passF (List.range i) σ' = (σi, bp) ∧ LP Wg B0 pb off o₀ A2 σi γ2 (.slice av N cv) vt2 w2 ∧ A2.thr.map (·.1) = A.thr.map (·.1) ∧ t = #[x0, x1, x2, x3, .pointer (some ⟨rb, 0, none⟩), x5, x6, .pointer (some ⟨Wg, 0, none⟩), .pointer (some ⟨pb, 0, none⟩), x9, x10, x11, x12, x13, .bool bp, y15, x16, x17, x18, x19, x20, x21, x22, x23, x24, x25, x26, x27, x28, x29, x30, x31, x32, x33, x34, x35, x36, x37, x38, x39, x40, x41, x42, x43, x44, x45, x46, x47, x48, x49, x50, x51, x52, x53, x54, x55, x56, x57, .bool true, .pointer (some ⟨pb, 0, none⟩), .slice av N cv, .int .i64 N, .int .i64 i, y63, y64, y65, y66, y67, y68, y69, y70, x71, x72, x73, x74, x75, x76, x77, x78, x79, x80, x81, x82, x83, x84, x85, x86, x87, x88, x89, x90, x91, x92, x93, x94, x95, x96, x97, x98, x99, x100]) ?_ (m := N) ⟨0, σ', false, γ', vt', _, _, _, _, _, _, _, _, _, by omega, rfl, HL.out, Hsv.out, rfl⟩
    clear hp0
    rintro m A2 t w2 ⟨i, σi, bp, γ2, vt2, y63, y64, y15, y65, y66, y67, y68, y69, y70, hmi, hpass, hL2, hsv2, rfl⟩
    have Hpass := Lib.hid hpass
    clear hpass
    have HL2 := Lib.hid hL2
    have Hsv2 := Lib.hid hsv2
    clear hL2 hsv2
    by_cases hi : i < N
    · have h1 : decide (i < N) = true := by simpa using hi
      have h2 : decide ((i : Int) < (N : Int)) = true := by simp; omega
      refine cps_seq O ?_
      (refine cps_region O ?_; simp only [List.size_toArray, List.length_cons, List.length_nil, Nat.reduceAdd, Nat.zero_add, List.range, List.range.loop])
      refine valR (.bool true) rfl rfl (fun _ => by simp [go_sem]) (fun _ => by go_simp; try (first | rfl | (simp [*]))) ?_; try walk_nrm
      refine cpsR_nil O ?_
      show cps _ _ _ _ _ _
      refine cps_seq O ?_
      refine cps_cond O (v := true) rfl ?_
      simp only [if_true]
      refine cps_skip O ?_
      show cps _ _ _ _ _ _
      refine cps_seq O ?_
      refine cps_block O ?_
      refine cps_seq O ?_
      (refine cps_region O ?_; simp only [List.size_toArray, List.length_cons, List.length_nil, Nat.reduceAdd, Nat.zero_add, List.range, List.range.loop])
      refine valR (.int .i64 i) rfl rfl (fun _ => by simp [go_sem]) (fun _ => by go_simp; try (first | rfl | (simp [*]))) ?_; try walk_nrm
      refine valR (.int .i64 i) rfl rfl (fun _ => by simp [go_sem]) (fun _ => by go_simp; try (first | rfl | (simp [*]))) ?_; try walk_nrm
      refine cpsR_nil O ?_
      show cps _ _ _ _ _ _
      (refine cps_region O ?_; simp only [List.size_toArray, List.length_cons, List.length_nil, Nat.reduceAdd, Nat.zero_add, List.range, List.range.loop])
      refine valR (.int .i64 i) rfl rfl (fun _ => by simp [go_sem]) (fun _ => by go_simp; try (first | rfl | (simp [*]))) ?_; try walk_nrm
      refine callR (f := 69) (vals := #[.pointer (some ⟨pb, 0, none⟩), .int .i64 i]) rfl rfl rfl Try.func69 (by kernel_rfl) rfl rfl ?_
      refine take_any hW HL2.out i (by omega) fun A3 γ3 vt3 w3 hL3 hsv3 => ?_
      have HL3 := Lib.hid hL3
      clear hL3
      have hmo := passF_snoc i σ'
      rw [Hpass.out] at hmo
      simp only at hmo
      obtain ⟨b3, hb3⟩ : ∃ b3, b3 = (takeF (i : Int) σi).2 := ⟨_, rfl⟩
      rw [← hb3] at hmo ⊢
      have Hmo := Lib.hid hmo
      clear hmo hb3
      have hw1 := wrap_i64 ((i : Int) + 1) (by omega) (by omega)
      try walk_nrm
      cases b3 with
      | true =>
        refine valR (.bool true) rfl rfl (fun _ => by simp [go_sem]) (fun _ => by go_simp; try (first | rfl | (simp [*]))) ?_; try walk_nrm
        refine cpsR_skip O rfl rfl ?_; try walk_nrm
        refine valR (.bool true) rfl rfl (fun _ => by simp [go_sem]) (fun _ => by go_simp; try (first | rfl | (simp [*]))) ?_; try walk_nrm
        refine valR (.bool true) rfl rfl (fun _ => by simp [go_sem]) (fun _ => by go_simp; try (first | rfl | (simp [*]))) ?_; try walk_nrm
        refine cpsR_nil O ?_
        show cps _ _ _ _ _ _
        (refine cps_region O ?_; simp only [List.size_toArray, List.length_cons, List.length_nil, Nat.reduceAdd, Nat.zero_add, List.range, List.range.loop])
        refine valR (.int .i64 (i + 1)) rfl rfl (fun _ => by simp [go_sem]) (fun _ => by go_simp; try (first | rfl | (simp [*]))) ?_; try walk_nrm
        refine valR (.int .i64 (i + 1)) rfl rfl (fun _ => by simp [go_sem]) (fun _ => by go_simp; try (first | rfl | (simp [*]))) ?_; try walk_nrm
        refine cpsR_nil O ?_
        exact ⟨m - 1, by omega, i + 1, _, true, γ3, vt3, _, _, _, _, _, _, _, _, _, by omega, Hmo.out, HL3.out, hsv3.trans Hsv2.out, rfl⟩
      | false =>
        refine valR (.bool false) rfl rfl (fun _ => by simp [go_sem]) (fun _ => by go_simp; try (first | rfl | (simp [*]))) ?_; try walk_nrm
        refine valR (.bool bp) rfl rfl (fun _ => by simp [go_sem]) (fun _ => by go_simp; try (first | rfl | (simp [*]))) ?_; try walk_nrm
        refine valR (.bool bp) rfl rfl (fun _ => by simp [go_sem]) (fun _ => by go_simp; try (first | rfl | (simp [*]))) ?_; try walk_nrm
        refine valR (.bool bp) rfl rfl (fun _ => by simp [go_sem]) (fun _ => by go_simp; try (first | rfl | (simp [*]))) ?_; try walk_nrm
        refine cpsR_nil O ?_
        show cps _ _ _ _ _ _
        (refine cps_region O ?_; simp only [List.size_toArray, List.length_cons, List.length_nil, Nat.reduceAdd, Nat.zero_add, List.range, List.range.loop])
        refine valR (.int .i64 (i + 1)) rfl rfl (fun _ => by simp [go_sem]) (fun _ => by go_simp; try (first | rfl | (simp [*]))) ?_; try walk_nrm
        refine valR (.int .i64 (i + 1)) rfl rfl (fun _ => by simp [go_sem]) (fun _ => by go_simp; try (first | rfl | (simp [*]))) ?_; try walk_nrm
        refine cpsR_nil O ?_
        exact ⟨m - 1, by omega, i + 1, _, bp, γ3, vt3, _, _, _, _, _, _, _, _, _, by omega, Hmo.out, HL3.out, hsv3.trans Hsv2.out, rfl⟩
    · have h1 : decide (i < N) = false := by simpa using hi
      have h2 : decide ((i : Int) < (N : Int)) = false := by simp; omega
      refine cps_seq O ?_
      (refine cps_region O ?_; simp only [List.size_toArray, List.length_cons, List.length_nil, Nat.reduceAdd, Nat.zero_add, List.range, List.range.loop])
      refine valR (.bool false) rfl rfl (fun _ => by simp [go_sem]) (fun _ => by go_simp; try (first | rfl | (simp [*]))) ?_; try walk_nrm
      refine cpsR_nil O ?_
      show cps _ _ _ _ _ _
      refine cps_seq O ?_
      refine cps_cond O (v := false) rfl ?_
      simp only [Bool.false_eq_true, if_false]
      refine cps_exit O ?_
      have hei : i = σ'.ps.length := by
        have e1 : σ'.ps.length = A'.thr.length := by rw [HL.out.ps]; exact List.length_map ..
        have e2 := Hlens.out A' Hsv.out
        omega
      have hL3 := HL2.out
      have hfin := Hfin.out
      simp only [if_true] at hfin
      have hpl := pass_len (List.range i) σ' false
      have hpass := Hpass.out
      have h16 := HL2.out.len
      obtain ⟨fu, rfl⟩ : ∃ n, fu = n + 1 := ⟨fu - 1, by have := HL.out.len; omega⟩
      unfold restF at hfin
      rw [← hei] at hfin
      simp only at hfin hpl
      rw [show List.foldl (fun x (k : Nat) => ((takeF (k : Int) x.1).1, (takeF (k : Int) x.1).2 || x.2)) (σ', false) (List.range i) = passF (List.range i) σ' from rfl] at hpl
      rw [hpass] at hfin hpl
      simp only at hfin hpl
      cases bp with
      | true =>
        have := hpl.2.2 rfl
        exact ⟨fu + 1, by omega, fu, true, _, γ2, vt2, _, _, _, _, _, _, _, _, _, _, _, _, _, _, rfl, by rcases this with h | h <;> first | cases h | omega, hfin, hL3, Hsv2.out, rfl⟩
      | false =>
        exact ⟨0, by omega, fu + 1, false, _, γ2, vt2, _, _, _, _, _, _, _, _, _, _, _, _, _, _, rfl, by omega, hfin, hL3, Hsv2.out, rfl⟩
end
end Go.Proofs.Ytdedmmjmiakidaa
/- Plain words: main makes a seat: its channels, its block. No condition. -/
namespace Go.Proofs.Ytdedmmjmiakidaa
open Go.Conc Go.RowKit
open Go.ConcR (KK wgBlock WgAt stA smA rd wr mk)
section
variable {X : Spec} {W : Machine → Trace → Prop} {Wg : Nat} {A A' : MI X} {w : World} {ops : Array Oper} {i : Nat} {o : Oper} {l : List Nat} {t : Array Value} {Qr : MI X → Array Value → World → Prop}
theorem allocR (hA : A.Ok Wg) (hwd : Wd Wg A.θ w) {ob : Obj} (v : Value) (ho : ops[i]? = some o) (hw : Region.wanted o (yielded ops t) = true)
    (he : ∀ w₁, (execOp (⟨t, []⟩ : Act).eval o).events Try.prog w₁ #[] = #[]) (hr : ∀ w₁ : World, w₁.heap.size = w.heap.size → (execOp (⟨t, []⟩ : Act).eval o).run Try.prog w₁ = .ok (.value v) (w₁.alloc ob))
    (h : cpsR (envM W X Wg) ops l Qr A ((⟨t, []⟩ : Act).put o.dst v).tmps (w.alloc ob)) : cpsR (envM W X Wg) ops (i :: l) Qr A t w := fun b k cs hf hk => by
  have hke : b.kind ≠ .early := by simpa using hf.kind
  refine goI_allocM hA hwd v ho hw hke he hr ?_
  rw [put_at]
  exact h b k cs hf hk
theorem growR (hW : Back Try.prog W) (hA : A.Ok Wg) (hA' : A'.Ok Wg) (h1 : A'.off = A.off) (h2 : A'.thr = A.thr) (h3 : A'.cr = A.cr) (h4 : A'.d = A.d) (hwd : Wd Wg A.θ w) {ob : Obj} (v : Value) (ho : ops[i]? = some o) (hw : Region.wanted o (yielded ops t) = true)
    (he : ∀ w₁, (execOp (⟨t, []⟩ : Act).eval o).events Try.prog w₁ #[] = #[]) (hr : ∀ w₁ : World, w₁.heap.size = w.heap.size → (execOp (⟨t, []⟩ : Act).eval o).run Try.prog w₁ = .ok (.value v) (w₁.alloc ob))
    (hk : ∀ w, KT A'.θ w → KT A.θ w) (hs : ∀ l, A.still l → A'.still l) (hc : ∀ c, isCh A.θ c → isCh A'.θ c) (hkw : Wd Wg A'.θ (w.alloc ob)) (hnew : ∀ l, A'.still l → A.still l ∨ ∃ o, l = .cell ⟨w.heap.size, o, none⟩)
    (h : cpsR (envM W X Wg) ops l Qr A' ((⟨t, []⟩ : Act).put o.dst v).tmps (w.alloc ob)) : cpsR (envM W X Wg) ops (i :: l) Qr A t w := fun b k cs hf hkk => by
  have hke : b.kind ≠ .early := by simpa using hf.kind
  refine growM hW hA hA' h1 h2 h3 h4 hwd v ho hw hke he hr hk hs hc hkw hnew ?_
  rw [put_at]
  exact h b k cs hf fun n' hn => hkk n' trivial
/-- An operation of main's own, by its walk alone. -/
theorem loneR (hA : A.Ok Wg) (hst : A.still = StT A.θ) (hwd : Wd Wg A.θ w) (ho : ops[i]? = some o) (hok : thrOk o.op = true) (hw : Region.wanted o (yielded ops t) = true)
    (h : ∀ u, Ps0 Try.prog (sig Wg A.θ) w u → o.wp Try.prog ⟨t, []⟩ u (fun a' u' => ∀ w', Ps0 Try.prog (sig Wg A.θ) w' u' → KR Wg A.θ w w' → ∃ t', a' = ⟨t', []⟩ ∧ cpsR (envM W X Wg) ops l Qr A t' w') (fun _ _ _ => False) ∧ ∀ f args w', (execOp (⟨t, []⟩ : Act).eval o).run Try.prog u ≠ .ok (.enter f args) w') : cpsR (envM W X Wg) ops (i :: l) Qr A t w := by
  have U : Suits Try.prog (sig Wg A.θ) (RWg tWg Wg) (DH Wg (WgL Wg) (KT A.θ) A.still (isCh A.θ)) (KR Wg A.θ) := by rw [hst]; exact suits hA.off fun l hl => by obtain ⟨a, e, q⟩ := hl; exact ⟨a, e, .inl q⟩
  have real := real_of hA.off hwd.kt hwd.wg
  have F := thr_fit (sig Wg A.θ)
  refine cpsR_k envM_ok ho hw fun w₁ hR => ?_
  have hR : RWg tWg Wg w w₁ := hR
  have hp0 := spoil_ps (P := Try.prog) no_steps real
  have hp1 : Ps0 Try.prog (sig Wg A.θ) w₁ (spoil (sig Wg A.θ) w) := Ps.others hp0 (U.oth _ _ hR)
  have hT := F.op (⟨t, []⟩ : Act).eval (reads_act _) o hok
  let T : Nat → Question → Nat := fun k => w₁.tape (w₁.drawn + (k - (spoil (sig Wg A.θ) w).drawn))
  obtain ⟨hwp, hne⟩ := h (World.deal (spoil (sig Wg A.θ) w) T) (hp0.dealt T)
  unfold Oper.wp at hwp
  cases hr : (execOp (⟨t, []⟩ : Act).eval o).run Try.prog (World.deal (spoil (sig Wg A.θ) w) T) with
  | halt x u' =>
    rw [hr] at hwp
    exfalso
    have := hT.mild.halts _ _ _ hr
    cases x <;> first | exact this.elim | (simp [Oper.upon] at hwp)
  | ok nx u' =>
    obtain ⟨w', es', h1, h2, h3, h4⟩ := hT.mild.sim u'.drawn w₁ _ nx u' #[] (hp1.deal u'.drawn) hr (Nat.le_refl _)
    rw [hr] at hwp
    have hrun : (execOp (⟨t, []⟩ : Act).eval o).run Try.prog w₁ = .ok nx w' := by rw [← Sem.runT_fst Try.prog _ w₁ #[], h1]
    have hev : (execOp (⟨t, []⟩ : Act).eval o).events Try.prog w₁ #[] = es' := by
      show ((execOp (⟨t, []⟩ : Act).eval o).runT Try.prog w₁ #[]).2 = _
      rw [h1]; simp
    refine ⟨es', hev, fun K' hK => ?_⟩
    have hD : DH Wg (WgL Wg) (KT A.θ) A.still (isCh A.θ) w₁ w' es' := U.list _ _ _ _ _ h3 h4
    have hKR : KR Wg A.θ w w' := KR.trans _ _ _ (U.kr _ _ hR) (U.kf _ _ _ _ h3)
    have hps : Ps0 Try.prog (sig Wg A.θ) w' u' := h2.off
    show uponK o _ K' ((execOp (⟨t, []⟩ : Act).eval o).run Try.prog w₁)
    rw [hrun]
    cases nx <;> first
      | (rw [Oper.upon_value] at hwp; exact hK _ _ ⟨hD, hwp w' hps hKR⟩)
      | (rw [Oper.upon_skip] at hwp; exact hK _ _ ⟨hD, hwp w' hps hKR⟩)
      | (exfalso; exact hne _ _ _ hr)
      | (exfalso; exact (hT.next _ _ _ hr).elim)
      | (exfalso; have := hT.next _ _ _ hr; simp [NextOk] at this)
end
section
variable {Y : Core} {W : Machine → Trace → Prop} {Wg B0 pb rb off : Nat} {o₀ : Own} {A : MI Y.spec} {w : World} {a : Y.Full} {svs : List SV} {tr : List Turned} {vs vt : Value}
theorem mc_run (w : World) : Sem.run Try.prog (Instr.makeChan 158 (.int .i64 0)) w = .ok (.chan (some w.heap.size)) (w.alloc (.chan 0 #[] false 0 0 false)) := by kernel_rfl
theorem mc_ev (w : World) : Sem.events Try.prog (Instr.makeChan 158 (.int .i64 0)) w #[] = #[] := by kernel_rfl
theorem mc_run' (w : World) : Sem.run Try.prog (Instr.makeChan 159 (.int .i64 0)) w = .ok (.chan (some w.heap.size)) (w.alloc (.chan 0 #[] false 0 0 false)) := by kernel_rfl
theorem mc_ev' (w : World) : Sem.events Try.prog (Instr.makeChan 159 (.int .i64 0)) w #[] = #[] := by kernel_rfl
/-- The region in which a seat is made. -/
noncomputable def r11ops : Array Oper := match (Try.f37.body.getD .skip) with
  | .seq _ (.seq _ (.seq _ (.seq _ (.seq _ (.seq (.seq _ (.block _ (.loop (.seq _ (.seq _ (.seq (.block _ (.seq _ (.seq (.region _ ops _) _))) _)))))) _))))) => ops
  | _ => #[]
theorem r11_size : r11ops.size = 6 := by kernel_rfl
set_option maxRecDepth 100000 in
set_option maxHeartbeats 4000000 in
/-- A seat is made. -/
theorem seat_made (hW : Back Try.prog W) (h : PK Y Wg B0 pb o₀ A.θ a svs tr vs vt w) (hA : A.Ok Wg) (hst : A.still = StT A.θ)
    {x0 x1 x2 x3 x4 x5 x6 x7 x8 x9 x10 x11 x12 x13 x14 x15 x16 x17 x18 x19 x20 x21 x22 x23 x24 x25 x26 x27 x28 x29 x30 x31 x32 x33 x34 x35 x36 x37 x38 x39 x40 x41 x42 x43 x44 x45 x46 x47 x48 x49 x50 x51 x52 x53 x54 x55 x56 x57 x58 x59 x60 x61 x62 x63 x64 x65 x66 x67 x68 x69 x70 x71 x72 x73 x74 x75 x76 x77 x78 x79 x80 x81 x82 x83 x84 x85 x86 x87 x88 x89 x90 x91 x92 x93 x94 x95 x96 x97 x98 x99 x100 : Value} {Q : MI Y.spec → Exit → Array Value → World → Prop}
    (hq : ∀ (s : SV) w' N0 y34 y35 y36 y37 y38, PK Y Wg B0 pb o₀ A.θ a svs tr vs vt w' → Half Y Wg pb o₀ A.θ a vs vt N0 s w' → w'.heap.size = s.box → Q { A with still := fun l => StT A.θ l ∨ halfL s l } .normal #[x0, x1, x2, x3, x4, x5, x6, x7, x8, x9, x10, (.pointer (some ⟨s.blk, 0, none⟩)), x12, x13, x14, x15, x16, x17, x18, x19, x20, x21, x22, x23, x24, x25, x26, x27, x28, x29, x30, x31, x32, x33, y34, y35, y36, y37, y38, x39, x40, x41, x42, x43, x44, x45, x46, x47, x48, x49, x50, x51, x52, x53, x54, x55, x56, x57, x58, x59, x60, x61, x62, x63, x64, x65, x66, x67, x68, x69, x70, x71, x72, x73, x74, x75, x76, x77, x78, x79, x80, x81, x82, x83, x84, x85, x86, x87, x88, x89, x90, x91, x92, x93, x94, x95, x96, x97, x98, x99, x100] w') :
    cps (envM W Y.spec Wg) (.region 11 r11ops true) Q A #[x0, x1, x2, x3, x4, x5, x6, x7, x8, x9, x10, x11, x12, x13, x14, x15, x16, x17, x18, x19, x20, x21, x22, x23, x24, x25, x26, x27, x28, x29, x30, x31, x32, x33, x34, x35, x36, x37, x38, x39, x40, x41, x42, x43, x44, x45, x46, x47, x48, x49, x50, x51, x52, x53, x54, x55, x56, x57, x58, x59, x60, x61, x62, x63, x64, x65, x66, x67, x68, x69, x70, x71, x72, x73, x74, x75, x76, x77, x78, x79, x80, x81, x82, x83, x84, x85, x86, x87, x88, x89, x90, x91, x92, x93, x94, x95, x96, x97, x98, x99, x100] w := by
  have O := envM_ok (W := W) (X := Y.spec) (Wg := Wg)
  have Hst := Lib.hid hst
  have Hq := Lib.hid hq
  clear hst hq
  refine cps_region_draw O fun m => ?_
  have hord := schedule_ord (P := Try.prog) (by kernel_rfl) r11ops m
  obtain ⟨l, hl⟩ : ∃ l, l = Region.schedule (Try.prog.follows .mixedOrders) r11ops m := ⟨_, rfl⟩
  show cpsR _ r11ops (Region.schedule (Try.prog.follows .mixedOrders) r11ops m) _ _ _ _
  rw [← hl] at hord ⊢
  clear hl
  have hord : Ord .any r11ops #[false, false, false, false, false, false] l := hord
  obtain ⟨N, hN⟩ : ∃ N, N = w.heap.size := ⟨_, rfl⟩
  have low := h.low hA.off
  have hW0 : Wg < w.heap.size := low Wg (.inr (.inl (.inl rfl)))
  have h1 := h.allocW hA.off (.chan 0 #[] false 0 0 false)
  obtain ⟨p1, p2, p3⟩ := alloc_at w (.chan 0 #[] false 0 0 false)
  obtain ⟨w1, hw1⟩ : ∃ w1, w1 = w.alloc (.chan 0 #[] false 0 0 false) := ⟨_, rfl⟩
  rw [← hw1] at h1 p1 p2 p3
  have h2 := h1.allocW hA.off (.chan 0 #[] false 0 0 false)
  obtain ⟨q1, q2, q3⟩ := alloc_at w1 (.chan 0 #[] false 0 0 false)
  obtain ⟨w2, hw2⟩ : ∃ w2, w2 = w1.alloc (.chan 0 #[] false 0 0 false) := ⟨_, rfl⟩
  rw [← hw2] at h2 q1 q2 q3
  have h3 := h2.allocW hA.off (.chan 0 #[] false 0 0 false)
  obtain ⟨r1, r2, r3⟩ := alloc_at w2 (.chan 0 #[] false 0 0 false)
  obtain ⟨w3, hw3⟩ : ∃ w3, w3 = w2.alloc (.chan 0 #[] false 0 0 false) := ⟨_, rfl⟩
  rw [← hw3] at h3 r1 r2 r3
  have hchs : ∀ c, c = N ∨ c = N + 1 ∨ c = N + 2 → w3.heap[c]? = some (.chan 0 #[] false 0 0 false) := by
    rintro c (rfl | rfl | rfl)
    · rw [r1 _ (by omega), q1 _ (by omega), hN]; exact p3
    · rw [r1 _ (by omega), show N + 1 = w1.heap.size by omega]; exact q3
    · rw [show N + 2 = w2.heap.size by omega]; exact r3
  have hz3 : w3.heap.size = N + 3 := by omega
  have hz2 : w2.heap.size = N + 2 := by omega
  have hz1 : w1.heap.size = N + 1 := by omega
  have hlow3 : ∀ b, (mineB o₀ pb vs vt b ∨ inF Wg A.θ b ∨ isCh A.θ b ∨ Y.foot a b) → b < N := by rw [hN]; exact low
  clear p1 p2 p3 q1 q2 q3 r1 r2 r3
  have Hz3 := Lib.hid hz3
  have fin : ∀ (c1 c2 c3 : Nat) (l : List Nat), Ord .any r11ops #[true, true, true, false, false, false] l → (c1 = N ∨ c1 = N + 1 ∨ c1 = N + 2) → (c2 = N ∨ c2 = N + 1 ∨ c2 = N + 2) → (c3 = N ∨ c3 = N + 1 ∨ c3 = N + 2) → c1 ≠ c2 → c1 ≠ c3 → c2 ≠ c3 →
      cpsR (envM W Y.spec Wg) r11ops l (fun n t w => Q n .normal t w) A #[x0, x1, x2, x3, x4, x5, x6, x7, x8, x9, x10, x11, x12, x13, x14, x15, x16, x17, x18, x19, x20, x21, x22, x23, x24, x25, x26, x27, x28, x29, x30, x31, x32, x33, .chan (some c1), .chan (some c2), .chan (some c3), x37, x38, x39, x40, x41, x42, x43, x44, x45, x46, x47, x48, x49, x50, x51, x52, x53, x54, x55, x56, x57, x58, x59, x60, x61, x62, x63, x64, x65, x66, x67, x68, x69, x70, x71, x72, x73, x74, x75, x76, x77, x78, x79, x80, x81, x82, x83, x84, x85, x86, x87, x88, x89, x90, x91, x92, x93, x94, x95, x96, x97, x98, x99, x100] w3 := by
    intro c1 c2 c3 l hl e1 e2 e3 n1 n2 n3
    obtain ⟨i, l1, rfl, hi, hl⟩ := ord_cases hl (rs := [3]) (by kernel_rfl) (by simp)
    simp only [List.mem_cons, List.not_mem_nil, or_false] at hi; subst hi
    obtain ⟨i, l2, rfl, hi, hl⟩ := ord_cases hl (rs := [4]) (by kernel_rfl) (by simp)
    simp only [List.mem_cons, List.not_mem_nil, or_false] at hi; subst hi
    obtain ⟨i, l3, rfl, hi, hl⟩ := ord_cases hl (rs := [5]) (by kernel_rfl) (by simp)
    simp only [List.mem_cons, List.not_mem_nil, or_false] at hi; subst hi
    obtain rfl := ord_done hl (by kernel_rfl)
    clear hl hz1 hz2 hz3 hw1 hw2 hw3 hN
    simp only [r11ops, Try.f37, Option.getD_some]
    try walk_nrm
    refine valR (.agg #[.chan (some c1), .chan (some c2), .chan (some c3), .int .u8 0, .int .i64 0, .bool false]) rfl rfl (fun _ => by simp [go_sem]) (fun _ => by go_simp; try (first | rfl | (simp [*]))) ?_; try walk_nrm
    obtain ⟨s, hs⟩ : ∃ s : SV, s = ⟨N + 3, N + 4, c1, c2, c3⟩ := ⟨_, rfl⟩
    have hsb : s.blk = N + 3 ∧ s.box = N + 4 ∧ s.turn = c1 ∧ s.stop = c2 ∧ s.says = c3 := by rw [hs]; exact ⟨rfl, rfl, rfl, rfl, rfl⟩
    have hbw : s.blk = w3.heap.size := by rw [hsb.1, Hz3.out]
    have hse : #[Value.chan (some c1), .chan (some c2), .chan (some c3), .int .u8 0, .int .i64 0, .bool false] = seatCells s zx zy zz := by unfold seatCells; rw [hsb.2.2.1, hsb.2.2.2.1, hsb.2.2.2.2]
    have h4 := h3.allocW hA.off (.cells (seatCells s zx zy zz) tSeat (0, 0))
    obtain ⟨p1, p2, p3⟩ := alloc_at w3 (.cells (seatCells s zx zy zz) tSeat (0, 0))
    have hhalf : Half Y Wg pb o₀ A.θ a vs vt N s (w3.alloc (.cells (seatCells s zx zy zz) tSeat (0, 0))) := by
      have hz := Hz3.out
      refine ⟨by rw [hbw]; exact p3, fun c hc => ?_, ?_, hlow3, ?_⟩
      · rw [hsb.2.2.1, hsb.2.2.2.1, hsb.2.2.2.2] at hc
        have hc3 := hchs c (by rcases hc with rfl | rfl | rfl <;> assumption)
        rw [p1 c (Array.getElem?_eq_some_iff.1 hc3).1]
        exact hc3
      · rw [hsb.2.2.1, hsb.2.2.2.1, hsb.2.2.2.2]; exact ⟨n1, n2, n3⟩
      · rw [hsb.1, hsb.2.2.1, hsb.2.2.2.1, hsb.2.2.2.2]
        rcases e1 with rfl | rfl | rfl <;> rcases e2 with rfl | rfl | rfl <;> rcases e3 with rfl | rfl | rfl <;> exact ⟨by omega, by omega, by omega, by omega, by omega⟩
    have hboxs : (w3.alloc (.cells (seatCells s zx zy zz) tSeat (0, 0))).heap.size = s.box := by have hz := Hz3.out; rw [p2, hsb.2.1]; omega
    have hWs : s.blk ≠ Wg := by have := hlow3 Wg (.inr (.inl (.inl rfl))); omega
    have Hbw := Lib.hid hbw
    have Hse := Lib.hid hse
    have Hboxs := Lib.hid hboxs
    have Hhalf := Lib.hid hhalf
    have H4 := Lib.hid h4
    clear hbw hse hboxs hhalf h4 p1 p2 p3 hs hsb
    rw [Hse.out]
    refine growR (A' := { A with still := fun l => StT A.θ l ∨ halfL s l }) (ob := .cells (seatCells s zx zy zz) tSeat (0, 0)) hW hA ⟨hA.pos, hA.off, hA.chan, ?_⟩ rfl rfl rfl rfl h3.wd (.pointer (some ⟨s.blk, 0, none⟩)) rfl rfl (fun _ => by simp [go_sem]) (fun w₁ hs => ?_) (fun _ h => h) (fun l hl => ?_) (fun _ h => h) ?_ (fun l hl => ?_) ?_
    · rintro l (hl | hl)
      · exact st_off hA.off l hl
      · rintro ⟨a, e, hb⟩
        rcases hl with hl | hl | hl <;> (rw [hl] at e; have e := Loc.cell.inj e; subst e; exact hWs hb)
    · have hs' : w₁.heap.size = s.blk := by rw [hs, Hbw.out]
      unfold seatCells
      go_simp
      try simp [hs']
    · rw [Hst.out] at hl; exact .inl hl
    · exact H4.out.wd
    · rcases hl with hl | hl
      · exact .inl (by rw [Hst.out]; exact hl)
      · rw [← Hbw.out]
        rcases hl with hl | hl | hl
        · exact .inr ⟨0, hl⟩
        · exact .inr ⟨1, hl⟩
        · exact .inr ⟨2, hl⟩
    try walk_nrm
    refine valR (.pointer (some ⟨s.blk, 0, none⟩)) rfl rfl (fun _ => by simp [go_sem]) (fun _ => by go_simp; try (first | rfl | (simp [*]))) ?_; try walk_nrm
    refine cpsR_nil O ?_
    exact Hq.out s _ N _ _ _ _ _ H4.out Hhalf.out Hboxs.out
  have hl := hord
  have HN := Lib.hid hN.symm
  have Hz1 := Lib.hid hz1
  have Hz2 := Lib.hid hz2
  have Hw1 := Lib.hid hw1
  have Hw2 := Lib.hid hw2
  have Hw3 := Lib.hid hw3
  clear hN hz1 hz2 hz3 hw1 hw2 hw3 hord
  simp only [r11ops, Try.f37, Option.getD_some]
  try walk_nrm
  obtain ⟨i, l, rfl, hi, hl⟩ := ord_cases hl (rs := [0, 1, 2]) (by kernel_rfl) (by simp)
  simp only [List.mem_cons, List.not_mem_nil, or_false] at hi
  rcases hi with rfl | rfl | rfl
  · refine allocR (ob := .chan 0 #[] false 0 0 false) hA h.wd (.chan (some N)) rfl rfl (fun _ => by simp [go_sem, mc_ev, mc_ev']) (fun w₁ hs => by rw [HN.out] at hs; simp [go_sem, mc_run, mc_run', hs]) ?_
    try walk_nrm
    rw [← Hw1.out]
    obtain ⟨i, l, rfl, hi, hl⟩ := ord_cases hl (rs := [1, 2]) (by kernel_rfl) (by simp)
    simp only [List.mem_cons, List.not_mem_nil, or_false] at hi
    rcases hi with rfl | rfl
    · refine allocR (ob := .chan 0 #[] false 0 0 false) hA h1.wd (.chan (some (N + 1))) rfl rfl (fun _ => by simp [go_sem, mc_ev, mc_ev']) (fun w₁ hs => by rw [Hz1.out] at hs; simp [go_sem, mc_run, mc_run', hs]) ?_
      try walk_nrm
      rw [← Hw2.out]
      obtain ⟨i, l, rfl, hi, hl⟩ := ord_cases hl (rs := [2]) (by kernel_rfl) (by simp)
      simp only [List.mem_cons, List.not_mem_nil, or_false] at hi
      subst hi
      refine allocR (ob := .chan 0 #[] false 0 0 false) hA h2.wd (.chan (some (N + 2))) rfl rfl (fun _ => by simp [go_sem, mc_ev, mc_ev']) (fun w₁ hs => by rw [Hz2.out] at hs; simp [go_sem, mc_run, mc_run', hs]) ?_
      try walk_nrm
      rw [← Hw3.out]
      exact fin N (N + 1) (N + 2) _ hl (by omega) (by omega) (by omega) (by omega) (by omega) (by omega)
    · refine allocR (ob := .chan 0 #[] false 0 0 false) hA h1.wd (.chan (some (N + 1))) rfl rfl (fun _ => by simp [go_sem, mc_ev, mc_ev']) (fun w₁ hs => by rw [Hz1.out] at hs; simp [go_sem, mc_run, mc_run', hs]) ?_
      try walk_nrm
      rw [← Hw2.out]
      obtain ⟨i, l, rfl, hi, hl⟩ := ord_cases hl (rs := [1]) (by kernel_rfl) (by simp)
      simp only [List.mem_cons, List.not_mem_nil, or_false] at hi
      subst hi
      refine allocR (ob := .chan 0 #[] false 0 0 false) hA h2.wd (.chan (some (N + 2))) rfl rfl (fun _ => by simp [go_sem, mc_ev, mc_ev']) (fun w₁ hs => by rw [Hz2.out] at hs; simp [go_sem, mc_run, mc_run', hs]) ?_
      try walk_nrm
      rw [← Hw3.out]
      exact fin N (N + 2) (N + 1) _ hl (by omega) (by omega) (by omega) (by omega) (by omega) (by omega)
  · refine allocR (ob := .chan 0 #[] false 0 0 false) hA h.wd (.chan (some N)) rfl rfl (fun _ => by simp [go_sem, mc_ev, mc_ev']) (fun w₁ hs => by rw [HN.out] at hs; simp [go_sem, mc_run, mc_run', hs]) ?_
    try walk_nrm
    rw [← Hw1.out]
    obtain ⟨i, l, rfl, hi, hl⟩ := ord_cases hl (rs := [0, 2]) (by kernel_rfl) (by simp)
    simp only [List.mem_cons, List.not_mem_nil, or_false] at hi
    rcases hi with rfl | rfl
    · refine allocR (ob := .chan 0 #[] false 0 0 false) hA h1.wd (.chan (some (N + 1))) rfl rfl (fun _ => by simp [go_sem, mc_ev, mc_ev']) (fun w₁ hs => by rw [Hz1.out] at hs; simp [go_sem, mc_run, mc_run', hs]) ?_
      try walk_nrm
      rw [← Hw2.out]
      obtain ⟨i, l, rfl, hi, hl⟩ := ord_cases hl (rs := [2]) (by kernel_rfl) (by simp)
      simp only [List.mem_cons, List.not_mem_nil, or_false] at hi
      subst hi
      refine allocR (ob := .chan 0 #[] false 0 0 false) hA h2.wd (.chan (some (N + 2))) rfl rfl (fun _ => by simp [go_sem, mc_ev, mc_ev']) (fun w₁ hs => by rw [Hz2.out] at hs; simp [go_sem, mc_run, mc_run', hs]) ?_
      try walk_nrm
      rw [← Hw3.out]
      exact fin (N + 1) N (N + 2) _ hl (by omega) (by omega) (by omega) (by omega) (by omega) (by omega)
    · refine allocR (ob := .chan 0 #[] false 0 0 false) hA h1.wd (.chan (some (N + 1))) rfl rfl (fun _ => by simp [go_sem, mc_ev, mc_ev']) (fun w₁ hs => by rw [Hz1.out] at hs; simp [go_sem, mc_run, mc_run', hs]) ?_
      try walk_nrm
      rw [← Hw2.out]
      obtain ⟨i, l, rfl, hi, hl⟩ := ord_cases hl (rs := [0]) (by kernel_rfl) (by simp)
      simp only [List.mem_cons, List.not_mem_nil, or_false] at hi
      subst hi
      refine allocR (ob := .chan 0 #[] false 0 0 false) hA h2.wd (.chan (some (N + 2))) rfl rfl (fun _ => by simp [go_sem, mc_ev, mc_ev']) (fun w₁ hs => by rw [Hz2.out] at hs; simp [go_sem, mc_run, mc_run', hs]) ?_
      try walk_nrm
      rw [← Hw3.out]
      exact fin (N + 2) N (N + 1) _ hl (by omega) (by omega) (by omega) (by omega) (by omega) (by omega)
  · refine allocR (ob := .chan 0 #[] false 0 0 false) hA h.wd (.chan (some N)) rfl rfl (fun _ => by simp [go_sem, mc_ev, mc_ev']) (fun w₁ hs => by rw [HN.out] at hs; simp [go_sem, mc_run, mc_run', hs]) ?_
    try walk_nrm
    rw [← Hw1.out]
    obtain ⟨i, l, rfl, hi, hl⟩ := ord_cases hl (rs := [0, 1]) (by kernel_rfl) (by simp)
    simp only [List.mem_cons, List.not_mem_nil, or_false] at hi
    rcases hi with rfl | rfl
    · refine allocR (ob := .chan 0 #[] false 0 0 false) hA h1.wd (.chan (some (N + 1))) rfl rfl (fun _ => by simp [go_sem, mc_ev, mc_ev']) (fun w₁ hs => by rw [Hz1.out] at hs; simp [go_sem, mc_run, mc_run', hs]) ?_
      try walk_nrm
      rw [← Hw2.out]
      obtain ⟨i, l, rfl, hi, hl⟩ := ord_cases hl (rs := [1]) (by kernel_rfl) (by simp)
      simp only [List.mem_cons, List.not_mem_nil, or_false] at hi
      subst hi
      refine allocR (ob := .chan 0 #[] false 0 0 false) hA h2.wd (.chan (some (N + 2))) rfl rfl (fun _ => by simp [go_sem, mc_ev, mc_ev']) (fun w₁ hs => by rw [Hz2.out] at hs; simp [go_sem, mc_run, mc_run', hs]) ?_
      try walk_nrm
      rw [← Hw3.out]
      exact fin (N + 1) (N + 2) N _ hl (by omega) (by omega) (by omega) (by omega) (by omega) (by omega)
    · refine allocR (ob := .chan 0 #[] false 0 0 false) hA h1.wd (.chan (some (N + 1))) rfl rfl (fun _ => by simp [go_sem, mc_ev, mc_ev']) (fun w₁ hs => by rw [Hz1.out] at hs; simp [go_sem, mc_run, mc_run', hs]) ?_
      try walk_nrm
      rw [← Hw2.out]
      obtain ⟨i, l, rfl, hi, hl⟩ := ord_cases hl (rs := [0]) (by kernel_rfl) (by simp)
      simp only [List.mem_cons, List.not_mem_nil, or_false] at hi
      subst hi
      refine allocR (ob := .chan 0 #[] false 0 0 false) hA h2.wd (.chan (some (N + 2))) rfl rfl (fun _ => by simp [go_sem, mc_ev, mc_ev']) (fun w₁ hs => by rw [Hz2.out] at hs; simp [go_sem, mc_run, mc_run', hs]) ?_
      try walk_nrm
      rw [← Hw3.out]
      exact fin (N + 2) (N + 1) N _ hl (by omega) (by omega) (by omega) (by omega) (by omega) (by omega)
end
end Go.Proofs.Ytdedmmjmiakidaa
/- Plain words: main puts a seat to the others. No condition. -/
namespace Go.Proofs.Ytdedmmjmiakidaa
open Go.Conc Go.RowKit
open Go.ConcR (KK wgBlock WgAt stA smA rd wr mk)
theorem info_seatP : (Try.prog.info? tSeatP).map (fun i => (i.zero, i.size, i.bytes)) = some (some (.pointer none), 1, 8) := by kernel_rfl
theorem und_seats : Try.prog.underlying 154 = some (.slice tSeatP) := by kernel_rfl
section
variable {Y : Core} {W : Machine → Trace → Prop} {Wg B0 pb rb off : Nat} {o₀ : Own} {A : MI Y.spec} {w : World} {a : Y.Full} {svs : List SV} {tr : List Turned} {vs vt : Value}
/-- The region in which a seat is put to the others. -/
noncomputable def r13ops : Array Oper := match (Try.f37.body.getD .skip) with
  | .seq _ (.seq _ (.seq _ (.seq _ (.seq _ (.seq (.seq _ (.block _ (.loop (.seq _ (.seq _ (.seq (.block _ (.seq _ (.seq _ (.seq _ (.region _ ops _))))) _)))))) _))))) => ops
  | _ => #[]
theorem r13_size : r13ops.size = 7 := by kernel_rfl
set_option maxRecDepth 100000 in
set_option maxHeartbeats 4000000 in
theorem seats_append (h : PK Y Wg B0 pb o₀ A.θ a svs tr vs vt w) (hA : A.Ok Wg) (hst : A.still = StT A.θ) (hn : svs.length < 1000) {s : SV}
    {x0 x1 x2 x3 x4 x5 x6 x7 x9 x10 x12 x13 x14 x15 x16 x17 x18 x19 x20 x21 x22 x23 x24 x25 x26 x27 x28 x29 x30 x31 x32 x33 x34 x35 x36 x37 x38 x39 x40 x41 x42 x43 x44 x45 x46 x47 x48 x49 x50 x51 x52 x53 x54 x55 x56 x57 x58 x59 x60 x61 x62 x63 x64 x65 x66 x67 x68 x69 x70 x71 x72 x73 x74 x75 x76 x77 x78 x79 x80 x81 x82 x83 x84 x85 x86 x87 x88 x89 x90 x91 x92 x93 x94 x95 x96 x97 x98 x99 x100 : Value} {Q : MI Y.spec → Exit → Array Value → World → Prop}
    (hq : ∀ vs' w' y42 y43 y44 y45 y46 y47, PK Y Wg B0 pb o₀ A.θ a (svs ++ [s]) tr vs' vt w' → Q A .normal #[x0, x1, x2, x3, x4, x5, x6, x7, .pointer (some ⟨pb, 0, none⟩), x9, x10, .pointer (some ⟨s.blk, 0, none⟩), x12, x13, x14, x15, x16, x17, x18, x19, x20, x21, x22, x23, x24, x25, x26, x27, x28, x29, x30, x31, x32, x33, x34, x35, x36, x37, x38, x39, x40, x41, y42, y43, y44, y45, y46, y47, x48, x49, x50, x51, x52, x53, x54, x55, x56, x57, x58, x59, x60, x61, x62, x63, x64, x65, x66, x67, x68, x69, x70, x71, x72, x73, x74, x75, x76, x77, x78, x79, x80, x81, x82, x83, x84, x85, x86, x87, x88, x89, x90, x91, x92, x93, x94, x95, x96, x97, x98, x99, x100] w') :
    cps (envM W Y.spec Wg) (.region 13 r13ops false) Q A #[x0, x1, x2, x3, x4, x5, x6, x7, .pointer (some ⟨pb, 0, none⟩), x9, x10, .pointer (some ⟨s.blk, 0, none⟩), x12, x13, x14, x15, x16, x17, x18, x19, x20, x21, x22, x23, x24, x25, x26, x27, x28, x29, x30, x31, x32, x33, x34, x35, x36, x37, x38, x39, x40, x41, x42, x43, x44, x45, x46, x47, x48, x49, x50, x51, x52, x53, x54, x55, x56, x57, x58, x59, x60, x61, x62, x63, x64, x65, x66, x67, x68, x69, x70, x71, x72, x73, x74, x75, x76, x77, x78, x79, x80, x81, x82, x83, x84, x85, x86, x87, x88, x89, x90, x91, x92, x93, x94, x95, x96, x97, x98, x99, x100] w := by
  have O := envM_ok (W := W) (X := Y.spec) (Wg := Wg)
  have Hst := Lib.hid hst
  have Hq := Lib.hid hq
  clear hst hq
  have hpW : pb ≠ Wg := h.neW (.inr (.inl rfl))
  obtain ⟨hp0, _, _⟩ := h.pcell
  obtain ⟨av0, cv0, hv0⟩ := own_form0 h.mem.seats
  obtain ⟨N, hN⟩ : ∃ N, N = w.heap.size := ⟨_, rfl⟩
  have HN := Lib.hid hN
  clear hN
  simp only [r13ops, Try.f37, Option.getD_some]
  try walk_nrm
  subst hv0
  (refine cps_region O ?_; simp only [List.size_toArray, List.length_cons, List.length_nil, Nat.reduceAdd, Nat.zero_add, List.range, List.range.loop])
  refine valR (.pointer (some ⟨pb, 0, none⟩)) rfl rfl (fun _ => by simp [go_sem]) (fun _ => by go_simp; try (first | rfl | (simp [*]))) ?_; try walk_nrm
  refine readR (ad := ⟨pb, 0, none⟩) (v := .slice av0 svs.length cv0) hpW hp0 rfl rfl (fun w₁ hc => by simp [go_sem, hc]) (fun w₁ hc => by go_simp) ?_; try walk_nrm
  refine valR (.pointer (some ⟨s.blk, 0, none⟩)) rfl rfl (fun _ => by simp [go_sem]) (fun _ => by go_simp; try (first | rfl | (simp [*]))) ?_; try walk_nrm
  refine allocR (ob := .cells #[.pointer (some ⟨s.blk, 0, none⟩)] tSeatP (0, 0)) hA h.wd (.slice (some ⟨N, 0, none⟩) 1 1) rfl rfl (fun _ => by simp [go_sem]) (fun w₁ hs => by have hs' := hs.trans HN.out.symm; clear hs; go_simp; try (simp [hs'])) ?_
  try walk_nrm
  have low := h.low hA.off
  have h4 := h.allocW hA.off (.cells #[.pointer (some ⟨s.blk, 0, none⟩)] tSeatP (0, 0))
  obtain ⟨p1, p2, p3⟩ := alloc_at w (.cells #[.pointer (some ⟨s.blk, 0, none⟩)] tSeatP (0, 0))
  rw [← HN.out] at p3
  obtain ⟨w4, hw4⟩ : ∃ w4, w4 = w.alloc (.cells #[.pointer (some ⟨s.blk, 0, none⟩)] tSeatP (0, 0)) := ⟨_, rfl⟩
  rw [← hw4] at h4 p1 p2 p3 ⊢
  clear hw4
  have hnF : ¬ inF Wg A.θ N := fun hF => by have := low N (.inr (.inl hF)); have := HN.out; omega
  have real4 := real_of hA.off h4.wd.kt h4.wd.wg
  obtain ⟨i0, hi0, hz0, hz1, hz2⟩ := info_parts info_seatP
  refine loneR hA Hst.out h4.wd rfl (by kernel_rfl) rfl fun u hu => ?_
  have hvsF : ∀ b, (Value.slice av0 svs.length cv0).ownBlock = some b → ¬ inF Wg A.θ b := fun b hb => h4.notF b (.inr (.inr (.inl hb)))
  have hown : u.ownsRow B0 tSeatP 1 (.slice av0 svs.length cv0) svs.length (svs.map fun s => .pointer (some ⟨s.blk, 0, none⟩)) := ownsRow_of h4.mem.seats fun b hb => hu.heap b (hvsF b hb)
  have hunb : u.heap[N]? = some (.cells #[.pointer (some ⟨s.blk, 0, none⟩)] tSeatP (0, 0)) := (hu.heap N hnF).trans p3
  have hpl : pb < u.heap.size := by rw [hu.size]; exact (Array.getElem?_eq_some_iff.1 h4.mem.row).1
  obtain ⟨v', u', hrun, ho', hg', _, hat⟩ := run_append_own_at (P := Try.prog) u B0 154 154 tSeatP i0 _ 1 8 und_seats hi0 hz0 hz1 hz2 rfl (by decide) (.slice av0 svs.length cv0) svs.length (svs.map fun s => .pointer (some ⟨s.blk, 0, none⟩)) hown ⟨N, 0, none⟩ 1 1 [.pointer (some ⟨s.blk, 0, none⟩)] rfl
    (fun j x hx => by
      have e : ((⟨N, 0, none⟩ : Addr).add j) = ⟨N, j, none⟩ := by
        unfold Addr.add
        split <;> simp_all
      rw [e]
      simp only [World.cell?, hunb]
      simpa using hx) (fun x hx => by simp at hx; subst hx; rfl) (by unfold maxLen; omega) (by omega) (by have := h4.base; omega)
  refine ⟨?_, fun f args w' => ?_⟩
  · unfold Oper.wp
    simp [execOp, resolve, invoke, builtin, Act.eval, hrun, Result.andThen]
    intro w' hu' hk
    have hsz := hu.size
    have h5 := h4.wd.kr hk
    have ht5 : Tm (inF Wg A.θ) (fun b => (Value.slice av0 svs.length cv0).ownBlock = some b) w4 w' := Tm.of_lone hu hu' (sm_grown hg' fun k e => e)
    have hF' : ∀ b, inF Wg A.θ b → b < w4.heap.size := fun b hb => by
      obtain ⟨c, hc⟩ := real4 b hb
      exact (Array.getElem?_eq_some_iff.1 hc).1
    have hv'F : ∀ b, v'.ownBlock = some b → ¬ inF Wg A.θ b := fun b hb hF => by
      rcases hat with e | e
      · exact hvsF b (e ▸ hb) hF
      · rw [e] at hb; obtain rfl := Option.some.inj hb; have := hF' _ hF; omega
    have hvs' : w'.ownsRow B0 tSeatP 1 v' (svs ++ [s]).length ((svs ++ [s]).map fun s => .pointer (some ⟨s.blk, 0, none⟩)) := by
      have := ownsRow_of (w' := w') ho' fun b hb => (hu'.heap b (hv'F b hb)).symm
      simpa using this
    have hatw : v'.ownBlock = (Value.slice av0 svs.length cv0).ownBlock ∨ ∃ b, v'.ownBlock = some b ∧ w4.heap.size ≤ b := hat.imp id fun e => ⟨_, e, by omega⟩
    have htr : w'.ownsRow B0 tTurned 3 vt tr.length (tr.flatMap turnCells) := ownsRow_of h4.mem.trace fun b hb => by
      obtain ⟨ob, hob⟩ := mine_lt h4 (.inr (.inr (.inr hb)))
      exact ht5.block b (Array.getElem?_eq_some_iff.1 hob).1 (fun e => h4.ne3 b e hb) (h4.notF b (.inr (.inr (.inr hb))))
    have hrow : w'.heap[pb]? = some (.cells #[.slice av0 svs.length cv0, vt, .slice none 0 0] tPlay (0, 0)) := by
      rw [ht5.block pb (by omega) h4.ne1 (h4.notF pb (.inr (.inl rfl)))]
      exact h4.mem.row
    clear hrun ho' hg' hat hu' hu hown hunb hk
    try refine ⟨_, rfl, ?_⟩
    try walk_nrm
    refine valR (.pointer (some ⟨pb, 0, none⟩)) rfl rfl (fun _ => by simp [go_sem]) (fun _ => by go_simp; try (first | rfl | (simp [*]))) ?_; try walk_nrm
    refine loneR hA Hst.out h5 rfl (by kernel_rfl) rfl fun u2 hu2 => ?_
    have hpF := h4.notF pb (.inr (.inl rfl))
    have hr2 : u2.heap[pb]? = some (.cells #[.slice av0 svs.length cv0, vt, .slice none 0 0] tPlay (0, 0)) := (hu2.heap pb hpF).trans hrow
    have hc1 : u2.cell? ⟨pb, 0, none⟩ = some (.slice av0 svs.length cv0) := by simp [World.cell?, hr2]
    have hf1 : u2.frozen? ⟨pb, 0, none⟩ = false := by simp [World.frozen?, hr2]
    obtain ⟨av, cv, hav⟩ := own_form0 hvs'
    refine ⟨?_, fun f args w' => ?_⟩
    · unfold Oper.wp
      rw [hav]
      go_simp
      intro w6 hu6 hk6
      try refine ⟨_, rfl, ?_⟩
      try walk_nrm
      have hwd6 := h5.kr hk6
      have ht6 : Tm (inF Wg A.θ) (fun b => b = pb) w' w6 := Tm.of_lone hu2 hu6 (Sm.setCell (F := fun b => b = pb) (Sm.refl _ _) rfl _)
      have hsz2 := hu2.size
      have hon : ∀ b, B0 ≤ b → o₀ b = none := fun b hb => by
        cases e : o₀ b with
        | none => rfl
        | some ob => have := (h4.old b ob e).2; omega
      have hsz5 := ht5.size
      have htt : Tm (inF Wg A.θ) (fun b => mineB o₀ pb (.slice av0 svs.length cv0) vt b ∧ o₀ b = none) w4 w6 :=
        (ht5.mono fun b _ hb => ⟨.inr (.inr (.inl hb)), hon b (own_base h4.mem.seats hb).1⟩).trans (ht6.mono fun b _ hb => by subst hb; exact ⟨.inr (.inl rfl), hon _ h4.base⟩)
      have hv'pb : v'.ownBlock ≠ some pb := by
        rcases hatw with e | ⟨b, e, hb⟩
        · rw [e]; exact h4.ne1
        · rw [e]; intro e; have := Option.some.inj e; omega
      have hb6 : ∀ b, b < w'.heap.size → b ≠ pb → ¬ inF Wg A.θ b → w6.heap[b]? = w'.heap[b]? := fun b hb hne hF => ht6.block b hb hne hF
      have hm6 : PMem B0 pb (svs ++ [s]) tr v' vt w6 := by
        refine ⟨?_, ownsRow_of hvs' fun b hb => ?_, ownsRow_of htr fun b hb => ?_⟩
        · rw [← hu6.heap pb hpF, hav]
          have := Row.set hr2 0 (.slice av (svs.length + 1) cv)
          simpa [Row] using this
        · obtain ⟨_, c, hc⟩ := own_base hvs' hb
          exact hb6 b (Array.getElem?_eq_some_iff.1 hc).1 (fun e => hv'pb (e ▸ hb)) (hv'F b hb)
        · obtain ⟨_, c, hc⟩ := own_base htr hb
          exact hb6 b (Array.getElem?_eq_some_iff.1 hc).1 (fun e => h4.ne2 (e ▸ hb)) (h4.notF b (.inr (.inr (.inr hb))))
      have hne3 : ∀ b, v'.ownBlock = some b → vt.ownBlock ≠ some b := fun b hb => by
        rcases hatw with e | ⟨b', e, hl⟩
        · rw [e] at hb; exact h4.ne3 b hb
        · rw [e] at hb
          intro e2
          obtain rfl := Option.some.inj hb
          obtain ⟨ob, hob⟩ := mine_lt h4 (.inr (.inr (.inr e2)))
          have := (Array.getElem?_eq_some_iff.1 hob).1
          omega
      refine cpsR_nil O ?_
      exact Hq.out v' w6 _ _ _ _ _ _ (h4.move hA.off hwd6 htt hm6 hatw (.inl rfl) hne3)
    · rw [hav]
      simp [go_sem, hc1, hf1]
  · simp [execOp, resolve, invoke, builtin, Act.eval, hrun, Result.andThen]
end
end Go.Proofs.Ytdedmmjmiakidaa
/- Plain words: main starts all threads of a play. No condition. -/
namespace Go.Proofs.Ytdedmmjmiakidaa
open Go.Conc Go.RowKit
open Go.ConcR (KK wgBlock WgAt stA smA rd wr mk)
abbrev tFn : TypeId := 94
/-- A thread that a play is given: its function, what it has caught, what it does up to its first step. -/
structure Thr (Y : Core) where
  f : FuncId
  caps : Array Value
  start : Y.St → Y.St × Option Y.Pc
def Thr.val {Y : Core} (d : Thr Y) : Value := .func (.func d.f) #[] d.caps
theorem startF_snoc {Y : Core} (f : Y.St → Y.St × Option Y.Pc) : ∀ (l : List (Y.St → Y.St × Option Y.Pc)) (σ : PSt Y), startF (l ++ [f]) σ = ⟨(f (startF l σ).a).1, (startF l σ).ps ++ [(f (startF l σ).a).2], (startF l σ).tr⟩
  | [], σ => rfl
  | g :: l, σ => startF_snoc f l _
theorem startF_tr {Y : Core} : ∀ (l : List (Y.St → Y.St × Option Y.Pc)) (σ : PSt Y), (startF l σ).tr = σ.tr
  | [], σ => rfl
  | g :: l, σ => startF_tr l _
theorem map_snoc_ps {S P Z : Type} {thr : List (S × Option ((P × Z) × Nat))} {n : Nat} {s : S} {p : Option (P × Z)} : (thr.map fun x => x.2.map (·.1.1)) ++ [p.map (·.1)] = (thr ++ [(s, p.map fun pc => (pc, n))]).map fun x => x.2.map (·.1.1) := by
  rw [List.map_append]
  cases p <;> rfl
theorem last_of {α : Type} {l : List α} {x y : α} (h : (l ++ [x])[l.length]? = some y) : x = y := by simpa using h
section
variable {Y : Core} {W : Machine → Trace → Prop} {Wg B0 pb rb off : Nat} {o₀ : Own} {A : MI Y.spec} {w : World} {σ : PSt Y} {γ : Nat → Y.Pg} {vs vt : Value}
theorem LP.started (h : LP Wg B0 pb off o₀ A σ γ vs vt w) {N0 : Nat} {s : SV} {w₁ : World} (hh : Half Y Wg pb o₀ A.θ (σ.a, γ) vs vt N0 s w₁) (hbox : w₁.heap.size = s.box) {a' : Y.Full} {p : Option Y.spec.Pc} {d : Y.St × Option Y.Pc} {vs' : Value} {w' : World} (h16 : A.thr.length < 16) (htr : σ.tr = [])
    (hz : Y.Step A.thr.length γ d a' p) (htid : ∀ q, d.2 = some q → Y.tid q = A.thr.length)
    (hpk : PK Y Wg B0 pb o₀ (A.started s 16385 p).θ a' (A.thr.map (·.1) ++ [s]) σ.tr vs' vt w') : LP Wg B0 pb off o₀ (A.started s 16385 p) ⟨d.1, σ.ps ++ [d.2], σ.tr⟩ a'.2 vs' vt w' := by
  obtain ⟨i1, i2, i3, i4, i5⟩ := hh.hi
  have hWl : Wg < N0 := hh.low Wg (.inr (.inl (.inl rfl)))
  have hmem : ∀ s', s' ∈ (A.started s 16385 p).θ ↔ s' ∈ A.θ ∨ s' = s := fun s' => by
    show s' ∈ tabOf _ _ ↔ _
    rw [tab_app, h.θ]
  have hoff : Off Wg (A.started s 16385 p).θ := fun s' hs' => by
    rcases (hmem s').1 hs' with h' | rfl
    · exact h.ok.off s' h'
    · exact ⟨by omega, by omega, by omega, by omega, by omega⟩
  have fr : ∀ q ∈ A.thr, q.1 ∈ A.θ := h.lone.seats
  have frc : ∀ q ∈ A.thr, ∀ c, (c = q.1.turn ∨ c = q.1.stop ∨ c = q.1.says) → c < N0 := fun q hq c hc => hh.low c (.inr (.inr (.inl ⟨q.1, fr q hq, hc⟩)))
  have frb : ∀ q ∈ A.thr, q.1.blk < N0 := fun q hq => hh.low _ (.inr (.inl (.inr ⟨q.1, fr q hq, .inl rfl⟩)))
  have key : ∀ (i : Nat) (r : SV × Option (Y.spec.Pc × Nat)), (A.started s 16385 p).thr[i]? = some r → (A.thr[i]? = some r ∧ r ∈ A.thr) ∨ (i = A.thr.length ∧ r.1 = s) := by
    intro i r hr
    have hr : (A.thr ++ [(s, p.map fun pc => (pc, 16385))])[i]? = some r := hr
    by_cases hl : i < A.thr.length
    · rw [List.getElem?_append_left hl] at hr; exact .inl ⟨hr, List.mem_of_getElem? hr⟩
    · rw [List.getElem?_append_right (by omega)] at hr
      have hz : i - A.thr.length = 0 := by
        have := (List.getElem?_eq_some_iff.1 hr).1
        simp at this
        omega
      rw [hz] at hr
      simp at hr
      exact .inr ⟨by omega, by rw [← hr]⟩
  refine ⟨⟨h.ok.pos, hoff, chan_of hpk.wd, st_off hoff⟩, ⟨fun s' hs' => ?_, fun j k r r2 h1 h2 hne c hc hc2 => ?_, fun r hr => ?_⟩, fun j k r r2 h1 h2 hne => ?_, h.d, h.cr, h.off, rfl, rfl, ?_, fun q hq pc' n' hn => ?_, fun j s' pc' n' hj => ?_, h.len, ?_, ?_⟩
  · rcases (hmem s').1 hs' with h' | rfl
    · exact h.lone.own s' h'
    · exact hh.ne
  · rcases key j r h1 with ⟨a, a2⟩ | ⟨a, b⟩ <;> rcases key k r2 h2 with ⟨a', a2'⟩ | ⟨a', b'⟩
    · exact h.lone.two j k r r2 a a' hne c hc hc2
    · rw [b'] at hc2
      have := frc r a2 c hc
      rcases hc2 with rfl | rfl | rfl <;> omega
    · rw [b] at hc
      have := frc r2 a2' c hc2
      rcases hc with rfl | rfl | rfl <;> omega
    · omega
  · have hr : r ∈ A.thr ++ [_] := hr
    rcases List.mem_append.1 hr with hr | hr
    · exact (hmem _).2 (.inl (fr r hr))
    · simp only [List.mem_cons, List.not_mem_nil, or_false] at hr
      exact (hmem _).2 (.inr (by rw [hr]))
  · rcases key j r h1 with ⟨a, a2⟩ | ⟨a, b⟩ <;> rcases key k r2 h2 with ⟨a', a2'⟩ | ⟨a', b'⟩
    · exact h.apart j k r r2 a a' hne
    · rw [b']; have := frb r a2; omega
    · rw [b]; have := frb r2 a2'; omega
    · omega
  · show σ.ps ++ [d.2] = _
    rw [h.ps, step_ps hz.pc]
    exact map_snoc_ps
  · have hq : q ∈ A.thr ++ [_] := hq
    rcases List.mem_append.1 hq with hq | hq
    · exact h.n q hq pc' n' hn
    · simp only [List.mem_cons, List.not_mem_nil, or_false] at hq
      rw [hq] at hn
      have := map_budget hn
      show 16385 ≤ n' + σ.tr.length
      omega
  · have hj : (A.thr ++ [(s, p.map fun pc => (pc, 16385))])[j]? = some (s', some (pc', n')) := hj
    rcases key j _ hj with ⟨q1, q2⟩ | ⟨q1, q2⟩
    · have := h.own j s' pc' n' q1
      have hjl := (List.getElem?_eq_some_iff.1 q1).1
      exact ⟨this.1, by rw [hz.others j (by omega)]; exact this.2⟩
    · subst q1
      obtain ⟨q1, q2⟩ := step_own (n := 16385) hz.pc (congrArg some (last_of hj))
      exact ⟨htid _ q1, q2⟩
  · show (A.thr ++ [_]).length ≤ 16
    simp; omega
  · have ea : ((d.1, a'.2) : Y.Full) = a' := Prod.ext hz.st.symm rfl
    show PK Y Wg B0 pb o₀ _ (d.1, a'.2) _ _ vs' vt w'
    rw [ea]
    exact Eq.mp (congrArg (fun l => PK Y Wg B0 pb o₀ (A.started s 16385 p).θ a' l σ.tr vs' vt w') (by show _ = (A.thr ++ [_]).map _; rw [List.map_append]; rfl)) hpk
/-- The text in which all are started. -/
noncomputable def c8 : Code := match (Try.f37.body.getD .skip) with
  | .seq _ (.seq _ (.seq _ (.seq _ (.seq _ (.seq c _))))) => c
  | c => c
set_option maxRecDepth 100000 in
set_option maxHeartbeats 8000000 in
theorem starts_c (hW : Back Try.prog W) {a : Y.St} (h : LP Wg B0 pb off o₀ A ⟨a, [], []⟩ γ vs vt w) (h0 : A.thr = []) (hoff : off < 60000) {ths : List (Thr Y)} {vth : Value} (hth : ∀ w, Keeps o₀ w → w.ownsRow 0 tFn 1 vth ths.length (ths.map Thr.val)) (hob : ∀ b, vth.ownBlock = some b → o₀ b ≠ none) (h16 : ths.length ≤ 16) (hrun : ∀ i d, ths[i]? = some d → ThrC Y i (γ i) d.f d.caps d.start)
    {x0 x2 x3 x5 x6 x9 x10 x11 x12 x13 x14 x15 x16 x17 x18 x19 x20 x21 x22 x23 x24 x25 x26 x27 x28 x29 x30 x31 x32 x33 x34 x35 x36 x37 x38 x39 x40 x41 x42 x43 x44 x45 x46 x47 x48 x49 x50 x51 x52 x53 x54 x55 x56 x57 x58 x59 x60 x61 x62 x63 x64 x65 x66 x67 x68 x69 x70 x71 x72 x73 x74 x75 x76 x77 x78 x79 x80 x81 x82 x83 x84 x85 x86 x87 x88 x89 x90 x91 x92 x93 x94 x95 x96 x97 x98 x99 x100 : Value} {Q : MI Y.spec → Exit → Array Value → World → Prop}
    (hq : ∀ A' γ' vs' w' y28 y29 y30 y31 y32 y33 y10 y34 y35 y36 y37 y38 y11 y39 y40 y41 y42 y43 y44 y45 y46 y47 y48, LP Wg B0 pb off o₀ A' (startF (ths.map (·.start)) ⟨a, [], []⟩) γ' vs' vt w' → A'.thr.length = ths.length → Q A' .normal #[x0, vth, x2, x3, .pointer (some ⟨rb, 0, none⟩), x5, x6, .pointer (some ⟨Wg, 0, none⟩), .pointer (some ⟨pb, 0, none⟩), x9, y10, y11, x12, x13, x14, x15, x16, x17, x18, x19, x20, x21, x22, x23, x24, x25, x26, x27, y28, y29, y30, y31, y32, y33, y34, y35, y36, y37, y38, y39, y40, y41, y42, y43, y44, y45, y46, y47, y48, x49, x50, x51, x52, x53, x54, x55, x56, x57, x58, x59, x60, x61, x62, x63, x64, x65, x66, x67, x68, x69, x70, x71, x72, x73, x74, x75, x76, x77, x78, x79, x80, x81, x82, x83, x84, x85, x86, x87, x88, x89, x90, x91, x92, x93, x94, x95, x96, x97, x98, x99, x100] w') :
    cps (envM W Y.spec Wg) c8 Q A #[x0, vth, x2, x3, .pointer (some ⟨rb, 0, none⟩), x5, x6, .pointer (some ⟨Wg, 0, none⟩), .pointer (some ⟨pb, 0, none⟩), x9, x10, x11, x12, x13, x14, x15, x16, x17, x18, x19, x20, x21, x22, x23, x24, x25, x26, x27, x28, x29, x30, x31, x32, x33, x34, x35, x36, x37, x38, x39, x40, x41, x42, x43, x44, x45, x46, x47, x48, x49, x50, x51, x52, x53, x54, x55, x56, x57, x58, x59, x60, x61, x62, x63, x64, x65, x66, x67, x68, x69, x70, x71, x72, x73, x74, x75, x76, x77, x78, x79, x80, x81, x82, x83, x84, x85, x86, x87, x88, x89, x90, x91, x92, x93, x94, x95, x96, x97, x98, x99, x100] w := by
  have O := envM_ok (W := W) (X := Y.spec) (Wg := Wg)
  obtain ⟨ao, co, hvo⟩ : ∃ a c, vth = .slice a ths.length c := own_form0 (hth w h.keeps)
  have Hq := Lib.hid hq
  have H0 := Lib.hid h0
  clear hq h0
  simp only [c8, Try.f37, Option.getD_some]
  subst hvo
  try walk_nrm
  refine cps_seq O ?_
  (refine cps_region O ?_; simp only [List.size_toArray, List.length_cons, List.length_nil, Nat.reduceAdd, Nat.zero_add, List.range, List.range.loop])
  refine valR (.slice ao ths.length co) rfl rfl (fun _ => by simp [go_sem]) (fun _ => by go_simp; try (first | rfl | (simp [*]))) ?_; try walk_nrm
  refine valR (.int .i64 ths.length) rfl rfl (fun _ => by simp [go_sem]) (fun _ => by go_simp; try (first | rfl | (simp [*]))) ?_; try walk_nrm
  refine valR (.int .i64 0) rfl rfl (fun _ => by simp [go_sem]) (fun _ => by go_simp; try (first | rfl | (simp [*]))) ?_; try walk_nrm
  refine cpsR_nil O ?_
  show cps _ _ _ _ _ _
  refine cps_block O ?_
  refine cps_loopm O (fun m A' t w' => ∃ (i : Nat) (γ' : Nat → Y.Pg) (vs' y31 y32 y33 y10 y34 y35 y36 y37 y38 y11 y39 y40 y41 y42 y43 y44 y45 y46 y47 y48 : Value), m + i = ths.length ∧ LP Wg B0 pb off o₀ A' (startF ((ths.take i).map (·.start)) ⟨a, [], []⟩) γ' vs' vt w' ∧ A'.thr.length = i ∧ (∀ j, i ≤ j → γ' j = γ j) ∧ t = #[x0, .slice ao ths.length co, x2, x3, .pointer (some ⟨rb, 0, none⟩), x5, x6, .pointer (some ⟨Wg, 0, none⟩), .pointer (some ⟨pb, 0, none⟩), x9, y10, y11, x12, x13, x14, x15, x16, x17, x18, x19, x20, x21, x22, x23, x24, x25, x26, x27, .slice ao ths.length co, .int .i64 ths.length, .int .i64 i, y31, y32, y33, y34, y35, y36, y37, y38, y39, y40, y41, y42, y43, y44, y45, y46, y47, y48, x49, x50, x51, x52, x53, x54, x55, x56, x57, x58, x59, x60, x61, x62, x63, x64, x65, x66, x67, x68, x69, x70, x71, x72, x73, x74, x75, x76, x77, x78, x79, x80, x81, x82, x83, x84, x85, x86, x87, x88, x89, x90, x91, x92, x93, x94, x95, x96, x97, x98, x99, x100]) ?_ (m := ths.length) ⟨0, γ, vs, _, _, _, _, _, _, _, _, _, _, _, _, _, _, _, _, _, _, _, _, rfl, h, by rw [H0.out]; rfl, fun _ _ => rfl, rfl⟩
  rintro m A' t w' ⟨i, γ', vs', y31, y32, y33, y10, y34, y35, y36, y37, y38, y11, y39, y40, y41, y42, y43, y44, y45, y46, y47, y48, hmi, hL, hsv, hγ, rfl⟩
  have HL := Lib.hid hL
  have Hsv := Lib.hid hsv
  have Hγ := Lib.hid hγ
  clear hL hsv hγ
  by_cases hi : i < ths.length
  · have h1 : decide (i < ths.length) = true := by simpa using hi
    have h2 : decide ((i : Int) < (ths.length : Int)) = true := by simp; omega
    refine cps_seq O ?_
    (refine cps_region O ?_; simp only [List.size_toArray, List.length_cons, List.length_nil, Nat.reduceAdd, Nat.zero_add, List.range, List.range.loop])
    refine valR (.bool true) rfl rfl (fun _ => by simp [go_sem]) (fun _ => by go_simp; try (first | rfl | (simp [*]))) ?_; try walk_nrm
    refine cpsR_nil O ?_
    show cps _ _ _ _ _ _
    refine cps_seq O ?_
    refine cps_cond O (v := true) rfl ?_
    simp only [if_true]
    refine cps_skip O ?_
    show cps _ _ _ _ _ _
    refine cps_seq O ?_
    refine cps_block O ?_
    refine cps_seq O ?_
    (refine cps_region O ?_; simp only [List.size_toArray, List.length_cons, List.length_nil, Nat.reduceAdd, Nat.zero_add, List.range, List.range.loop])
    obtain ⟨g, cap, e⟩ := own_form (hth w' HL.out.keeps) (by omega)
    cases e
    obtain ⟨d, hd⟩ : ∃ d, ths[i]? = some d := ⟨_, List.getElem?_eq_getElem hi⟩
    have hcell : w'.cell? ⟨g, i, none⟩ = some (.func (.func d.f) #[] d.caps) := by
      have := (hth w' HL.out.keeps).cells (g := g) rfl i (.func (.func d.f) #[] d.caps) (by simp [hd, Thr.val])
      have e : ((⟨g, 0, none⟩ : Addr).add i) = ⟨g, i, none⟩ := by
        unfold Addr.add
        split <;> simp_all
      rw [e] at this
      exact this
    have hgW : g ≠ Wg := HL.out.neW (hob g rfl)
    have h4 : decide (i < ths.length) = true := by simpa using hi
    have h7 : i < ths.length := hi
    have h8 : (i : Int) < ths.length := by omega
    have Hd := Lib.hid hd
    clear hd
    refine valR (.pointer (some ⟨g, i, none⟩)) rfl rfl (fun _ => by simp [go_sem, *]) (fun _ => by go_simp; try (first | rfl | (simp [*]))) ?_; try walk_nrm
    refine readR (ad := ⟨g, i, none⟩) (v := .func (.func d.f) #[] d.caps) hgW hcell rfl rfl (fun w₁ hc => by simp [go_sem, hc]) (fun w₁ hc => by go_simp) ?_; try walk_nrm
    refine valR (.func (.func d.f) #[] d.caps) rfl rfl (fun _ => by simp [go_sem]) (fun _ => by go_simp; try (first | rfl | (simp [*]))) ?_; try walk_nrm
    refine cpsR_nil O ?_
    show cps _ _ _ _ _ _
    refine cps_seq O ?_
    have hst : A'.still = StT A'.θ := HL.out.st
    have Hst := Lib.hid hst
    clear hst
    refine seat_made hW HL.out.pk HL.out.ok Hst.out fun s w2 N0 y34 y35 y36 y37 y38 hpk2 hhalf hbox => ?_
    have Hhalf := Lib.hid hhalf
    have Hbox := Lib.hid hbox
    clear hhalf hbox
    show cps _ _ _ _ _ _
    refine cps_seq O ?_
    (refine cps_region O ?_; simp only [List.size_toArray, List.length_cons, List.length_nil, Nat.reduceAdd, Nat.zero_add, List.range, List.range.loop])
    refine valR (.pointer (some ⟨s.blk, 0, none⟩)) rfl rfl (fun _ => by simp [go_sem]) (fun _ => by go_simp; try (first | rfl | (simp [*]))) ?_; try walk_nrm
    refine valR (.func (.func d.f) #[] d.caps) rfl rfl (fun _ => by simp [go_sem]) (fun _ => by go_simp; try (first | rfl | (simp [*]))) ?_; try walk_nrm
    refine callR (f := 68) (vals := #[.pointer (some ⟨s.blk, 0, none⟩), .func (.func d.f) #[] d.caps, .pointer (some ⟨Wg, 0, none⟩)]) rfl rfl rfl Try.func68 (by kernel_rfl) rfl rfl ?_
    have hOk := HL.out.ok
    have hWs : s.blk ≠ Wg := by
      have := Hhalf.out.low Wg (.inr (.inl (.inl rfl)))
      have := Hhalf.out.hi.1
      omega
    refine run_c (A := { A' with still := fun l => StT A'.θ l ∨ halfL s l }) hW hpk2 ⟨hOk.pos, hOk.off, hOk.chan, ?_⟩ ⟨HL.out.lone.own, HL.out.lone.two, HL.out.lone.seats⟩ HL.out.apart HL.out.d HL.out.cr (by show A'.off + A'.thr.length < 90000; rw [HL.out.off, Hsv.out]; omega) HL.out.θ (fun l => Iff.rfl) Hhalf.out Hbox.out (by show ThrC Y i (γ' i) _ _ _; rw [Hγ.out i (Nat.le_refl _)]; exact hrun i d Hd.out) 16385 fun a4 p4 hz4 w3 hpk3 => ?_
    · rintro l (hl | hl)
      · exact st_off hOk.off l hl
      · rintro ⟨a, e, hb⟩
        rcases hl with hl | hl | hl <;> (rw [hl] at e; have e := Loc.cell.inj e; subst e; exact hWs hb)
    try walk_nrm
    refine cpsR_nil O ?_
    show cps _ _ _ _ _ _
    have hmem : ∀ s', s' ∈ (A'.started s 16385 p4).θ ↔ s' ∈ A'.θ ∨ s' = s := fun s' => by
      show s' ∈ tabOf _ _ ↔ _
      rw [tab_app, HL.out.θ]
    have hoff3 : Off Wg (A'.started s 16385 p4).θ := fun s' hs' => by
      rcases (hmem s').1 hs' with h' | rfl
      · exact hOk.off s' h'
      · have := Hhalf.out.low Wg (.inr (.inl (.inl rfl)))
        have hb := Hbox.out
        obtain ⟨i1, i2, i3, i4, i5⟩ := Hhalf.out.hi
        exact ⟨by omega, by omega, by omega, by omega, by omega⟩
    refine seats_append (A := A'.started s 16385 p4) (s := s) hpk3 ⟨hOk.pos, hoff3, chan_of hpk3.wd, st_off hoff3⟩ rfl (by rw [List.length_map, Hsv.out]; omega) fun vs4 w4 y42 y43 y44 y45 y46 y47 hpk4 => ?_
    have htr0 : (startF ((ths.take i).map (·.start)) ⟨a, [], []⟩).tr = [] := startF_tr _ _
    have hL4 := LP.started HL.out Hhalf.out Hbox.out (by rw [Hsv.out]; omega) htr0 (d := d.start (startF ((ths.take i).map (·.start)) ⟨a, [], []⟩).a) (by rw [Hsv.out]; exact hz4) (fun q hq => by rw [Hsv.out]; exact (hrun i d Hd.out).tid _ q hq) hpk4
    have HL4 := Lib.hid hL4
    clear hL4 htr0 hpk4 hpk3 hpk2
    show cps _ _ _ _ _ _
    (refine cps_region O ?_; simp only [List.size_toArray, List.length_cons, List.length_nil, Nat.reduceAdd, Nat.zero_add, List.range, List.range.loop])
    have hw1 := wrap_i64 ((i : Int) + 1) (by omega) (by omega)
    refine valR (.int .i64 (i + 1)) rfl rfl (fun _ => by simp [go_sem]) (fun _ => by go_simp; try (first | rfl | (simp [*]))) ?_; try walk_nrm
    refine valR (.int .i64 (i + 1)) rfl rfl (fun _ => by simp [go_sem]) (fun _ => by go_simp; try (first | rfl | (simp [*]))) ?_; try walk_nrm
    refine cpsR_nil O ?_
    have hs' : startF ((ths.take (i + 1)).map (·.start)) ⟨a, [], []⟩ = ⟨(d.start (startF ((ths.take i).map (·.start)) ⟨a, [], []⟩).a).1, (startF ((ths.take i).map (·.start)) ⟨a, [], []⟩).ps ++ [(d.start (startF ((ths.take i).map (·.start)) ⟨a, [], []⟩).a).2], (startF ((ths.take i).map (·.start)) ⟨a, [], []⟩).tr⟩ := by
      rw [List.take_succ_eq_append_getElem hi, List.map_append]
      have : ths[i] = d := Option.some.inj ((List.getElem?_eq_getElem hi).symm.trans Hd.out)
      rw [this]
      exact startF_snoc _ _ _
    exact ⟨m - 1, by omega, i + 1, a4.2, vs4, _, _, _, _, _, _, _, _, _, _, _, _, _, _, _, _, _, _, _, _, by omega, by rw [hs']; exact HL4.out, by show (A'.thr ++ [_]).length = _; rw [List.length_append, Hsv.out]; rfl, fun j hj => (hz4.others j (by omega)).trans (Hγ.out j (by omega)), rfl⟩
  · have h1 : decide (i < ths.length) = false := by simpa using hi
    have h2 : decide ((i : Int) < (ths.length : Int)) = false := by simp; omega
    refine cps_seq O ?_
    (refine cps_region O ?_; simp only [List.size_toArray, List.length_cons, List.length_nil, Nat.reduceAdd, Nat.zero_add, List.range, List.range.loop])
    refine valR (.bool false) rfl rfl (fun _ => by simp [go_sem]) (fun _ => by go_simp; try (first | rfl | (simp [*]))) ?_; try walk_nrm
    refine cpsR_nil O ?_
    show cps _ _ _ _ _ _
    refine cps_seq O ?_
    refine cps_cond O (v := false) rfl ?_
    simp only [Bool.false_eq_true, if_false]
    refine cps_exit O ?_
    have hei : i = ths.length := by omega
    have hL' := HL.out
    rw [hei, List.take_length] at hL'
    exact Hq.out A' γ' vs' w' _ _ _ _ _ _ _ _ _ _ _ _ _ _ _ _ _ _ _ _ _ _ _ hL' (Hsv.out.trans hei)
end
end Go.Proofs.Ytdedmmjmiakidaa
/- Plain words: words for whichever goroutine, in whatever company; goroutine 0 ahead of a play and behind it. No condition. -/
namespace Go.Proofs.Ytdedmmjmiakidaa
open Go.Conc Go.RowKit
open Go.ConcN (sumTo upd sumTo_upd upd_ne upd_same)
open Go.ConcR (KK wgBlock WgAt stA smA rd wr mk)
/-- A company in which words are at hand: bad: the blocks that it must not look at. -/
structure Env.Good (E : Env) (bad : E.ι → Nat → Prop) : Prop where
  ok : E.Ok
  prog : E.P = Try.prog
  same : ∀ n w w₁, E.R w w₁ → ∀ b, ¬ bad n b → w₁.heap[b]? = w.heap[b]?
  reads : ∀ n w es, (∀ e ∈ es, ∃ a : Addr, e = ⟨.cell a, false, false⟩ ∧ ¬ bad n a.block ∧ a.block < w.heap.size) → E.D n w w es
section
variable {E : Env} {bad : E.ι → Nat → Prop} {n : E.ι} {w : World} {ops : Array Oper} {i : Nat} {o : Oper} {l : List Nat} {t : Array Value} {Qr : E.ι → Array Value → World → Prop}
theorem Env.Good.cell (G : E.Good bad) {w₁ : World} {ad : Addr} {v : Value} (hn : ¬ bad n ad.block) (h : w.cell? ad = some v) (hR : E.R w w₁) : w₁.cell? ad = some v := by
  unfold World.cell? at *
  rw [G.same n _ _ hR _ hn]
  exact h
/-- A value that hangs on no memory. -/
theorem valG (G : E.Good bad) (v : Value) (ho : ops[i]? = some o) (hw : Region.wanted o (yielded ops t) = true) (he : ∀ w₁, (execOp (⟨t, []⟩ : Act).eval o).events Try.prog w₁ #[] = #[]) (hr : ∀ w₁, (execOp (⟨t, []⟩ : Act).eval o).run Try.prog w₁ = .ok (.value v) w₁)
    (h : cpsR E ops l Qr n ((⟨t, []⟩ : Act).put o.dst v).tmps w) : cpsR E ops (i :: l) Qr n t w := by
  refine cpsR_op G.ok ho hw fun w₁ hR => ⟨v, w₁, #[], .inl ?_, G.ok.still _ _, h.rely G.ok hR⟩
  rw [G.prog, Sem.runT_eq, hr w₁, he w₁]
/-- A read of one cell. -/
theorem readG (G : E.Good bad) {ad : Addr} {v : Value} (hn : ¬ bad n ad.block) (hc : w.cell? ad = some v) (ho : ops[i]? = some o) (hw : Region.wanted o (yielded ops t) = true)
    (he : ∀ w₁, w₁.cell? ad = some v → (execOp (⟨t, []⟩ : Act).eval o).events Try.prog w₁ #[] = #[⟨.cell ad, false, false⟩]) (hr : ∀ w₁, w₁.cell? ad = some v → (execOp (⟨t, []⟩ : Act).eval o).run Try.prog w₁ = .ok (.value v) w₁)
    (h : cpsR E ops l Qr n ((⟨t, []⟩ : Act).put o.dst v).tmps w) : cpsR E ops (i :: l) Qr n t w := by
  refine cpsR_op G.ok ho hw fun w₁ hR => ?_
  have hc1 := G.cell hn hc hR
  refine ⟨v, w₁, #[⟨.cell ad, false, false⟩], .inl ?_, G.reads n w₁ _ fun e hel => ?_, h.rely G.ok hR⟩
  · rw [G.prog, Sem.runT_eq, hr w₁ hc1, he w₁ hc1]
  · simp only [List.mem_toArray, List.mem_cons, List.not_mem_nil, or_false] at hel
    exact ⟨ad, hel, hn, size_of_cell hc1⟩
/-- A call. -/
theorem callG (G : E.Good bad) {f : FuncId} {fn : Func} {c : Code} {vals : Array Value} (ho : ops[i]? = some o) (hw : Region.wanted o (yielded ops t) = true)
    (hr : ∀ w₁, (execOp (⟨t, []⟩ : Act).eval o).run Try.prog w₁ = (callFunc f vals).run Try.prog w₁) (he : ∀ w₁, (execOp (⟨t, []⟩ : Act).eval o).events Try.prog w₁ #[] = (callFunc f vals).events Try.prog w₁ #[]) (hf : Try.prog.funcs[f]? = some fn) (hnm : (fn.name == "runtime.NumGoroutine") = false) (hb : fn.body = some c)
    (h : cpsC E f vals (fun n' v w' => cpsR E ops l Qr n' ((⟨t, []⟩ : Act).put o.dst v).tmps w') n w) : cpsR E ops (i :: l) Qr n t w := by
  refine cpsR_enter G.ok (f := f) (args := vals) ho hw (fun w₁ _ => ⟨#[], ?_, G.ok.still _ _⟩) h
  rw [G.prog, Sem.runT_eq, hr w₁, he w₁, run_callF hf hnm hb, ev_callF hf hnm hb]
theorem call_run {f : FuncId} {args : Array Operand} {ats : Array TypeId} {vals : Array Value} (hop : o.op = .call { callee := .value (.func f), args, argTypes := ats }) (hv : args.toList.map (⟨t, []⟩ : Act).eval = vals.toList) (w₁ : World) : (execOp (⟨t, []⟩ : Act).eval o).run Try.prog w₁ = (callFunc f vals).run Try.prog w₁ ∧ (execOp (⟨t, []⟩ : Act).eval o).events Try.prog w₁ #[] = (callFunc f vals).events Try.prog w₁ #[] := by
  have hv' : args.map (⟨t, []⟩ : Act).eval = vals := by
    apply Array.toList_inj.1
    rw [Array.toList_map, hv]
  constructor
  · simp [go_sem, execOp, hop, resolve, invoke, Deferred.ofValue]
    rw [hv']
  · simp [go_sem, execOp, hop, resolve, invoke, Deferred.ofValue]
    rw [hv']
/-- .. of a known function. -/
theorem callS (G : E.Good bad) {f : FuncId} {fn : Func} {c : Code} {args : Array Operand} {ats : Array TypeId} {vals : Array Value} (ho : ops[i]? = some o) (hw : Region.wanted o (yielded ops t) = true)
    (hop : o.op = .call { callee := .value (.func f), args, argTypes := ats }) (hf : Try.prog.funcs[f]? = some fn) (hnm : (fn.name == "runtime.NumGoroutine") = false) (hb : fn.body = some c) (hv : args.toList.map (⟨t, []⟩ : Act).eval = vals.toList)
    (h : cpsC E f vals (fun n' v w' => cpsR E ops l Qr n' ((⟨t, []⟩ : Act).put o.dst v).tmps w') n w) : cpsR E ops (i :: l) Qr n t w :=
  callG G ho hw (fun w₁ => (call_run hop hv w₁).1) (fun w₁ => (call_run hop hv w₁).2) hf hnm hb h
end

/-! ### goroutine 0 with nobody at work beside it -/
/-- The group that was waited for, and how many goroutines there were. -/
structure LX where
  wg : Option Nat
  n : Nat
def LX.sh (x : LX) (l : Loc) : Prop := match x.wg with
  | none => False
  | some g => WgL g l
def LX.bad (x : LX) (b : Nat) : Prop := x.wg = some b
/-- From here all is well. -/
def StL (W : Machine → Trace → Prop) (x : LX) (g : Goroutine) (w : World) : Prop :=
  ∀ gs T q, Leavers Try.prog T gs q → Past x.sh w.heap.size T → gs[0]? = some g → gs.size = x.n → Win W gs w T
noncomputable def envL (W : Machine → Trace → Prop) : Env where
  P := Try.prog
  main := true
  R := AtRel
  ι := LX
  D := fun x => DL x.sh
  le := fun _ _ => True
  St := fun x => StL W x
  cs := fun _ => True
theorem envL_ok {W : Machine → Trace → Prop} : (envL W).Ok where
  rrefl := atRel_refl
  rtrans := atRel_trans
  lrefl := fun _ => trivial
  ltrans := fun _ _ _ _ _ => trivial
  still := fun n w => ⟨Nat.le_refl _, by simp⟩
  draw := fun n w => ⟨Nat.le_refl _, by simp⟩
  rdraw := fun w w₁ h => atRel_trans _ _ _ h ⟨w₁.drawn + 1, rfl⟩
  sub := fun n w w' es es' h hs => ⟨h.size, fun e he => h.ev e (hs e he)⟩
  push := fun _ _ _ _ _ _ _ => trivial
theorem sh_bad {x : LX} {a : Addr} (h : ¬ x.bad a.block) : ¬ x.sh (.cell a) := by
  unfold LX.sh LX.bad at *
  cases hw : x.wg with
  | none => simp
  | some g =>
    rw [hw] at h
    rintro ⟨a', e, hb⟩
    have e := Loc.cell.inj e
    subst e
    exact h (by rw [hb])
theorem envL_good {W : Machine → Trace → Prop} : (envL W).Good LX.bad where
  ok := envL_ok
  prog := rfl
  same := fun n w w₁ h b _ => by obtain ⟨d, rfl⟩ := h; rfl
  reads := fun n w es h => ⟨Nat.le_refl _, fun e he => by
    obtain ⟨a, rfl, hb, hl⟩ := h e he
    exact evL_cell a false (sh_bad hb) hl⟩
section
variable {W : Machine → Trace → Prop} {x : LX} {w : World}
/-- What goes well in this company goes well in the machine. -/
theorem winL (hW : Back Try.prog W) {g : Goroutine} (h : (envL W).Go x g w) : StL W x g w := fun gs T q L hP hg hn =>
  lwalk hW h gs T w q (atRel_refl w) L hP hg fun gs' a' w' T' q' hsz hst L' hP' ha' => hst gs' T' q' L' hP' ha' (hsz.trans hn)
theorem goL {g : Goroutine} (h : ∀ w₁, AtRel w w₁ → StL W x g w₁) : (envL W).Go x g w := GoesI.stop h
/-- The blocks that are spoilt for its lone walks. -/
noncomputable def sigL (x : LX) : Poison := ⟨x.bad, fun _ => tWg, fun _ => False⟩
theorem others_at {σ : Poison} {P : Program} {w w₁ : World} (h : AtRel w w₁) : Others P σ w w₁ := by
  obtain ⟨d, rfl⟩ := h
  exact ⟨fun _ _ => rfl, fun _ _ h => h, rfl, rfl, rfl, rfl⟩
theorem suitsL : Suits Try.prog (sigL x) AtRel (DL x.sh) (fun w w' => w.heap.size ≤ w'.heap.size) := by
  refine ⟨fun w w₁ h => others_at h, fun w w₁ h => ?_, fun w w' u u' h => h.size, fun w => Nat.le_refl _, fun a b c h k => Nat.le_trans h k, fun w w' u u' es h hev => ⟨h.size, fun e he => ?_⟩⟩
  · obtain ⟨d, rfl⟩ := h; exact Nat.le_refl _
  · have hE := hev e he
    obtain ⟨loc, wr, sy⟩ := e
    cases loc with
    | cell a =>
      obtain ⟨h1, h2⟩ : a.block < w'.heap.size ∧ ¬ x.bad a.block := hE
      refine ⟨fun q hq => ?_, by simp, by simp, h1⟩
      have e1 : MemAct.ofEvent ⟨.cell a, wr, sy⟩ = .access ⟨.cell a, wr, sy⟩ := rfl
      rw [e1] at hq
      simp only [MemAct.touch?, Option.some.injEq] at hq
      subst hq
      exact fun hs => absurd hs (sh_bad h2)
    | obj r =>
      obtain ⟨h1, h2⟩ : r < w'.heap.size ∧ ¬ x.bad r := hE
      have e1 : MemAct.ofEvent ⟨.obj r, wr, sy⟩ = .close r ∨ MemAct.ofEvent ⟨.obj r, wr, sy⟩ = .access ⟨.obj r, wr, sy⟩ := by
        cases wr <;> cases sy <;> first | exact .inl rfl | exact .inr rfl
      refine ⟨fun q hq => ?_, by simp, by simp, ?_⟩
      · rcases e1 with e1 | e1
        · rw [e1] at hq; cases hq
        · rw [e1] at hq
          simp only [MemAct.touch?, Option.some.injEq] at hq
          subst hq
          intro hs
          unfold LX.sh at hs
          cases hw : x.wg with
          | none => rw [hw] at hs; exact hs.elim
          | some g => rw [hw] at hs; obtain ⟨a', e, _⟩ := hs; cases e
      · rcases e1 with e1 | e1 <;> (rw [e1]; exact h1)
    | mark m =>
      have hm : m = .noRoom ∨ ∃ f, m = .extern f := hE
      rcases hm with rfl | ⟨f, rfl⟩ <;> exact ⟨fun q hq => by simp [MemAct.ofEvent, MemAct.touch?] at hq, by simp, by simp, trivial⟩
    | _ => exact hE.elim
instance noCL : NoC (sigL x) := ⟨fun _ h => h⟩
/-- What must be there of the group. -/
def LX.Real (x : LX) (w : World) : Prop := ∀ b, x.bad b → ∃ c, w.heap[b]? = some (.cells c tWg (0, 0))
end
end Go.Proofs.Ytdedmmjmiakidaa
