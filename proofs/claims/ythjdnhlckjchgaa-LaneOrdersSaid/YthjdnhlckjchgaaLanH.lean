/- lane.NewOrder, (*Order).Waiting, walked alone; what Put does, told on lists. -/
import Derived.Test.YthjdnhlckjchgaaLanG
namespace Go.Proofs.Ythjdnhlckjchgaa
open Go.RowKit
set_option linter.unusedVariables false
set_option linter.unusedSimpArgs false

abbrev Wt := (Int × Nat) × Int
def lookL (ws : List Wt) (a : Int) (s : Nat) : Option Int := (ws.find? (fun p => p.1 == (a, s))).map (·.2)
def delL (ws : List Wt) (a : Int) (s : Nat) : List Wt := ws.filter (fun p => !(p.1 == (a, s)))
def drain : Nat → Int → Nat → List Wt → List Int → Nat × List Wt × List Int
  | 0, _, c, ws, out => (c, ws, out)
  | k + 1, a, c, ws, out => match lookL ws a c with
    | none => (c, ws, out)
    | some y => drain k a (c + 1) (delL ws a c) (out ++ [y])
structure PutOut where
  nx : List Nat
  ws : List Wt
  out : List Int
  err : Nat
def putL (nx : List Nat) (room : Nat) (ws : List Wt) (a : Int) (s : Nat) (x : Int) : PutOut :=
  if a < 0 ∨ (nx.length : Int) ≤ a then ⟨nx, ws, [], 5⟩
  else if (lookL ws a s).isSome = true ∨ s < nx.getD a.toNat 0 then ⟨nx, ws, [], 240⟩
  else if nx.getD a.toNat 0 < s then (if room ≤ ws.length then ⟨nx, ws, [], 4⟩ else ⟨nx, ws ++ [((a, s), x)], [], 0⟩)
  else
    let r := drain ws.length a (nx.getD a.toNat 0 + 1) ws [x]
    ⟨nx.set a.toNat r.1, r.2.1, r.2.2, 0⟩

/-- A stamp that may wait. -/
def okS (a : Int) (s : Nat) : Prop := 0 ≤ a ∧ a < 16 ∧ s < 18446744073709551616
/-- An order in memory. -/
structure OrdL (O N M : Nat) (nx : List Nat) (room : Nat) (ws : List Wt) (w : World) : Prop where
  rO : Row w O #[.slice (some ⟨N, 0, none⟩) nx.length nx.length, .int .i64 (room : Int), .map (some M)] 118
  rN : Row w N (uw nx) 36
  mM : ∃ f, MapI 38 w M f ws.length ∧ ∀ a s, okS a s → f (stN a s) = lookL ws a s
  nd : (ws.map (·.1)).Nodup
  ok : ∀ p ∈ ws, okS p.1.1 p.1.2 ∧ (Lit.int .i64 p.2).wf = true
  neNO : N ≠ O
  neMO : M ≠ O
  neMN : M ≠ N
  pos : 0 < nx.length
  le : nx.length ≤ 16
theorem OrdL.sm {F : Nat → Prop} {O N M : Nat} {nx : List Nat} {room : Nat} {ws : List Wt} {w w' : World} (h : OrdL O N M nx room ws w) (k : Sm F w w') (hO : ¬ F O) (hN : ¬ F N) (hM : ¬ F M) : OrdL O N M nx room ws w' :=
  { h with rO := h.rO.sm k hO, rN := h.rN.sm k hN, mM := h.mM.elim fun f hf => ⟨f, hf.1.sm k hM, hf.2⟩ }

set_option maxRecDepth 100000 in
theorem neworder_ok (n room : Nat) (h0 : 0 < n) (hn : n ≤ 16) (hr : room ≤ 4096) (w : World) :
    Calls Try.prog 9 #[.int .i64 n, .int .i64 room] w fun e w' => e = .returned (.tuple #[.pointer (some ⟨w.heap.size + 2, 0, none⟩), .int .i64 0]) ∧ Sm (fun _ => False) w w' ∧
      OrdL (w.heap.size + 2) w.heap.size (w.heap.size + 1) (List.replicate n 0) room [] w' := by
  have hm := make_u64s n (by omega) w
  have hmm : ∀ W : World, (Instr.makeMap 116 none).run Try.prog W = .ok (.map (some W.heap.size)) (W.alloc (.map #[] 0)) := fun W => run_makeMap _ W
  have j1 : ¬ (n : Int) < 1 := by omega
  have j2 : ¬ (16 : Int) < (n : Int) := by omega
  have j3 : ¬ (room : Int) < 0 := by omega
  have j4 : ¬ (4096 : Int) < (room : Int) := by omega
  go_enter Try.func9, Try.ntmps9
  go_wp2
  go_ret2
  refine ⟨by simp, (((Sm.refl _ _).alloc _).alloc _).alloc _, ?_⟩
  have r1 := Row.new ((w.alloc (.cells (uw (List.replicate n 0)) 36)).alloc (.map #[] 0)) #[.slice (some ⟨w.heap.size, 0, none⟩) n n, .int .i64 (room : Int), .map (some (w.heap.size + 1))] 118
  have r2 := ((Row.new w (uw (List.replicate n 0)) 36).alloc (.map #[] 0)).alloc (.cells #[.slice (some ⟨w.heap.size, 0, none⟩) n n, .int .i64 (room : Int), .map (some (w.heap.size + 1))] 118 (0, 0))
  have r3 := MapI.made 38 (w.alloc (.cells (uw (List.replicate n 0)) 36))
  refine ⟨by simpa using r1, by simpa using r2, ⟨fun _ => none, ?_, fun a s _ => rfl⟩, by simp, by simp, by omega, by omega, by omega, by simpa using h0, by simpa using hn⟩
  have r4 := r3.sm ((Sm.refl (fun _ => False) _).alloc (.cells #[.slice (some ⟨w.heap.size, 0, none⟩) n n, .int .i64 (room : Int), .map (some (w.heap.size + 1))] 118 (0, 0))) (fun h => h)
  simpa using r4

theorem neworder_bad (n room : Int) (hb : n < 1 ∨ 16 < n ∨ room < 0 ∨ 4096 < room) (w : World) :
    Calls Try.prog 9 #[.int .i64 n, .int .i64 room] w fun e w' => e = .returned (.tuple #[.pointer none, .int .i64 2]) ∧ w = w' := by
  by_cases h1 : n < 1
  · go_enter Try.func9, Try.ntmps9
    go_wp2
    go_ret2
    exact ⟨rfl, rfl⟩
  by_cases h2 : 16 < n
  · go_enter Try.func9, Try.ntmps9
    go_wp2
    go_ret2
    exact ⟨rfl, rfl⟩
  by_cases h3 : room < 0
  · go_enter Try.func9, Try.ntmps9
    go_wp2
    go_ret2
    exact ⟨rfl, rfl⟩
  · have h4 : 4096 < room := by omega
    go_enter Try.func9, Try.ntmps9
    go_wp2
    go_ret2
    exact ⟨rfl, rfl⟩

theorem waiting_c (O N M : Nat) (nx : List Nat) (room : Nat) (ws : List Wt) (w : World) (h : OrdL O N M nx room ws w) :
    Calls Try.prog 12 #[.pointer (some ⟨O, 0, none⟩)] w fun e w' => e = .returned (.int .i64 ws.length) ∧ w = w' := by
  obtain ⟨f, h1, h2⟩ := h.mM
  have hl := h1.len Try.underlying116 3
  have c2 : w.cell? ⟨O, 2, none⟩ = some (.map (some M)) := h.rO.cell 2
  go_enter Try.func12, Try.ntmps12
  go_wp2
  go_ret
  exact ⟨rfl, rfl⟩
end Go.Proofs.Ythjdnhlckjchgaa
