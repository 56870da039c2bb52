/- Plain words: a world that is as it was but for some blocks; small facts on numbers. No condition. -/
import Derived.WalkKit
import Derived.WalkLawsBesides
import Derived.WalkSpells
import Derived.RowKit
import Derived.KernelRfl
import Derived.Deep.Draws
import Derived.Lib.Hide
import Derived.Deep.RegionLaw
import Derived.Deep.RegionWith
import Derived.BigQuiet
import Derived.Deep.QuietTactic
import Derived.LoopTactic
import Derived.Outline
namespace Go.Proofs.Ytpmnmgemdaoigaa
open Go.RowKit

/-- The world w' is as w was, but for the blocks that F names, and for new blocks, and for draws. -/
structure Sm (F : Nat → Prop) (w w' : World) : Prop where
  os : w'.os = w.os
  tape : w'.tape = w.tape
  output : w'.output = w.output
  size : w.heap.size ≤ w'.heap.size
  block : ∀ k, k < w.heap.size → ¬ F k → w'.heap[k]? = w.heap[k]?

theorem Sm.refl (F : Nat → Prop) (w : World) : Sm F w w := ⟨rfl, rfl, rfl, Nat.le_refl _, fun _ _ _ => rfl⟩
theorem Sm.trans {F : Nat → Prop} {a b c : World} (h : Sm F a b) (k : Sm F b c) : Sm F a c :=
  ⟨k.os.trans h.os, k.tape.trans h.tape, k.output.trans h.output, Nat.le_trans h.size k.size,
    fun i hi hf => (k.block i (Nat.lt_of_lt_of_le hi h.size) hf).trans (h.block i hi hf)⟩
theorem Sm.mono {F F' : Nat → Prop} {w w' : World} (h : Sm F w w') (hF : ∀ k, F k → F' k) : Sm F' w w' :=
  ⟨h.os, h.tape, h.output, h.size, fun k hk hf => h.block k hk (fun x => hf (hF k x))⟩
theorem Sm.drewN {F : Nat → Prop} {a w : World} (h : Sm F a w) (n : Nat) : Sm F a (w.drewN n) := ⟨h.os, h.tape, h.output, h.size, h.block⟩
theorem Sm.drew {F : Nat → Prop} {a w : World} (h : Sm F a w) : Sm F a w.drew := ⟨h.os, h.tape, h.output, h.size, h.block⟩
theorem Sm.alloc {F : Nat → Prop} {a w : World} (h : Sm F a w) (o : Obj) : Sm F a (w.alloc o) :=
  h.trans ⟨rfl, rfl, rfl, by simp, fun k hk _ => Below.heap_alloc _ _ _ (by omega)⟩
theorem Sm.setCell {F : Nat → Prop} {a w : World} (h : Sm F a w) {p : Addr} (hp : F p.block) (u : Value) : Sm F a (w.setCell p u) :=
  h.trans ⟨rfl, rfl, rfl, by simp [World.setCell], fun k _ hf => Below.heap_setCell _ _ _ _ (fun e => hf (e ▸ hp))⟩
/-- A store into a block that is new. -/
theorem Sm.setNew {F : Nat → Prop} {a w : World} (h : Sm F a w) {p : Addr} (hp : a.heap.size ≤ p.block) (u : Value) : Sm F a (w.setCell p u) :=
  ⟨h.os, h.tape, h.output, Nat.le_trans h.size (by simp [World.setCell]), fun k hk hf => (Below.heap_setCell _ _ _ _ (by omega)).trans (h.block k hk hf)⟩
theorem Sm.below {F : Nat → Prop} {B : Nat} {w w' : World} (h : Sm F w w') (hB : B ≤ w.heap.size) (hF : ∀ k, F k → B ≤ k) : Below B w w' :=
  ⟨h.os, h.tape, h.output, h.size, fun k hk => h.block k (by omega) (fun f => by have := hF k f; omega)⟩
theorem Sm.of_below {F : Nat → Prop} {B : Nat} {w w' : World} (h : Below B w w') (hF : ∀ k, B ≤ k → k < w.heap.size → F k) : Sm F w w' :=
  ⟨h.os, h.tape, h.output, h.size, fun k hk hf => h.block k (by
    rcases Nat.lt_or_ge k B with h | h
    · exact h
    · exact absurd (hF k h hk) hf)⟩
theorem Sm.cell {F : Nat → Prop} {w w' : World} (h : Sm F w w') {p : Addr} (hp : p.block < w.heap.size) (hf : ¬ F p.block) : w'.cell? p = w.cell? p :=
  World.cell?_of_block (w := w) (h.block p.block hp hf)
theorem Sm.frozen {F : Nat → Prop} {w w' : World} (h : Sm F w w') {p : Addr} (hp : p.block < w.heap.size) (hf : ¬ F p.block) : w'.frozen? p = w.frozen? p :=
  World.frozen?_of_block (w := w) (h.block p.block hp hf)

/-- A block of cells, none of them frozen. -/
def Row (w : World) (b : Nat) (c : Array Value) (T : TypeId) : Prop := w.heap[b]? = some (.cells c T (0, 0))
theorem Row.lt {w : World} {b : Nat} {c : Array Value} {T : TypeId} (h : Row w b c T) : b < w.heap.size := by
  unfold Row at h
  exact (Array.getElem?_eq_some_iff.1 h).1
theorem Row.cell {w : World} {b : Nat} {c : Array Value} {T : TypeId} (h : Row w b c T) (i : Nat) : w.cell? ⟨b, i, none⟩ = c[i]? := by
  unfold Row at h
  simp [World.cell?, h]
theorem Row.free {w : World} {b : Nat} {c : Array Value} {T : TypeId} (h : Row w b c T) (i : Nat) : w.frozen? ⟨b, i, none⟩ = false := by
  unfold Row at h
  simp [World.frozen?, h]
theorem Row.set {w : World} {b : Nat} {c : Array Value} {T : TypeId} (h : Row w b c T) (i : Nat) (v : Value) : Row (w.setCell ⟨b, i, none⟩ v) b (c.setIfInBounds i v) T := by
  unfold Row at h ⊢
  simp [World.setCell, Array.getElem?_modify, h]
theorem Row.set_ne {w : World} {b : Nat} {c : Array Value} {T : TypeId} (h : Row w b c T) {a : Addr} (ha : a.block ≠ b) (v : Value) : Row (w.setCell a v) b c T := by
  unfold Row at h ⊢
  rw [Below.heap_setCell _ _ _ _ (fun e => ha e.symm)]
  exact h
theorem Row.drewN {w : World} {b : Nat} {c : Array Value} {T : TypeId} (h : Row w b c T) (n : Nat) : Row (w.drewN n) b c T := h
theorem Row.drew {w : World} {b : Nat} {c : Array Value} {T : TypeId} (h : Row w b c T) : Row w.drew b c T := h
theorem Row.sm {F : Nat → Prop} {w w' : World} {b : Nat} {c : Array Value} {T : TypeId} (h : Row w b c T) (k : Sm F w w') (hf : ¬ F b) : Row w' b c T := by
  unfold Row at h ⊢
  rw [k.block b (Row.lt h) hf]
  exact h
theorem Row.of_heap {w w' : World} {b : Nat} {c : Array Value} {T : TypeId} (h : Row w b c T) (e : w'.heap[b]? = w.heap[b]?) : Row w' b c T := by
  unfold Row at h ⊢
  rw [e]
  exact h
theorem Row.alloc {w : World} {b : Nat} {c : Array Value} {T : TypeId} (h : Row w b c T) (o : Obj) : Row (w.alloc o) b c T := by
  have := Row.lt h
  unfold Row at h ⊢
  rw [Below.heap_alloc _ _ _ this]
  exact h
theorem Row.new (w : World) (c : Array Value) (T : TypeId) : Row (w.alloc (.cells c T (0, 0))) w.heap.size c T := by
  unfold Row
  show (w.heap.push _)[w.heap.size]? = _
  simp

/-- append to a slice that is nil or the call's own, as one step of a region whose order is drawn. -/
theorem step_append_own {P : Program} {ops : Array Oper} {o : Oper} {a : Act} {w : World} {K : Act → World → Prop} {Q : Exit → Act → World → Prop} {E : Prop}
    (hg : o.guard = none) (s x : Operand) (t : TypeId) (hop : o.op = Op.call { callee := Callee.builtin Builtin.append, args := #[s, x], argTypes := #[t, t] })
    (base : Nat) (e : TypeId) (i : TypeInfo) (z : Value) (size bytes : Nat) (h1 : P.underlying t = some (.slice e)) (h2 : P.info? e = some i) (h3 : i.zero = some z) (h4 : i.size = size) (h5 : i.bytes = bytes) (h6 : z.cells.size = size) (h7 : 0 < size)
    (v : Value) (n : Nat) (xs : List Value) (hs : a.eval s = v) (hown : w.ownsRow base e size v n xs)
    (ad : Addr) (m c : Nat) (news : List Value) (hx : a.eval x = .slice (some ad) m c) (hn : news.length = m * size) (hc : ∀ j u, news[j]? = some u → w.cell? (ad.add j) = some u) (h1c : ∀ u ∈ news, u.oneCell' = true)
    (b1 : n + m ≤ maxLen) (b2 : (n + m) * bytes ≤ 140737488355328) (hbase : base ≤ w.heap.size)
    (hK : ∀ v' w', w'.ownsRow base e size v' (n + m) (xs ++ news) → w.grownBy w' v.ownBlock → K (a.put o.dst v') w') :
    if Region.wanted o (yielded ops a.tmps) = true then Oper.wp P o a w K Q else E := by
  have hw : Region.wanted o (yielded ops a.tmps) = true := by simp [Region.wanted, hg]
  rw [if_pos hw]
  obtain ⟨v', w', hrun, r1, r2, _⟩ := run_append_own (P := P) w base t o.type e i z size bytes h1 h2 h3 h4 h5 h6 h7 v n xs hown ad m c news hn hc h1c b1 b2 hbase
  unfold Oper.wp
  simp [execOp, hop, resolve, invoke, builtin, hs, hx, hrun, Result.andThen]
  exact hK v' w' r1 r2

theorem own_sm {F : Nat → Prop} {w w' : World} {base : Nat} {e : TypeId} {size : Nat} {v : Value} {n : Nat} {xs : List Value} (h : w.ownsRow base e size v n xs) (k : Sm F w w') (hF : ∀ b, base ≤ b → ¬ F b) :
    w'.ownsRow base e size v n xs := by
  obtain ⟨h1, h2⟩ := h
  refine ⟨h1, ?_⟩
  rcases h2 with h2 | ⟨g, cap, cur, hv, hg, hh, r⟩
  · exact .inl h2
  · refine .inr ⟨g, cap, cur, hv, hg, ?_, r⟩
    rw [k.block g (Array.getElem?_eq_some_iff.1 hh).1 (hF g hg)]
    exact hh

theorem sm_grown {F : Nat → Prop} {w w' : World} {row : Option Nat} (h : w.grownBy w' row) (hF : ∀ k, row = some k → F k) : Sm F w w' :=
  ⟨h.os, h.tape, h.output, h.size, fun k hk hf => h.block k hk (fun e => hf (hF k e.symm))⟩

theorem new_cells (w : World) (l : List Value) (T : TypeId) : ∀ (j : Nat) (u : Value), l[j]? = some u → (w.alloc (.cells l.toArray T (0, 0))).cell? ((⟨w.heap.size, 0, none⟩ : Addr).add j) = some u := by
  intro j u h
  have := (Row.new w l.toArray T).cell j
  have e : ((⟨w.heap.size, 0, none⟩ : Addr).add j) = ⟨w.heap.size, j, none⟩ := by
    unfold Addr.add
    split <;> simp_all
  rw [e, this]
  simpa using h

theorem Row.grown {w w' : World} {b : Nat} {c : Array Value} {T : TypeId} {row : Option Nat} (h : Row w b c T) (hg : w.grownBy w' row) (hne : row ≠ some b) : Row w' b c T := by
  have := h.lt
  unfold Row at h ⊢
  rw [hg.block b this (fun e => hne e.symm)]
  exact h

theorem own_form {w : World} {base size n : Nat} {e : TypeId} {v : Value} {xs : List Value} (h : w.ownsRow base e size v n xs) (hn : 0 < n) : ∃ g cap, v = .slice (some ⟨g, 0, none⟩) n cap := by
  obtain ⟨_, h2⟩ := h
  rcases h2 with ⟨_, h2⟩ | ⟨g, cap, cur, hv, _⟩
  · omega
  · exact ⟨g, cap, hv⟩
theorem own_form0 {w : World} {base size n : Nat} {e : TypeId} {v : Value} {xs : List Value} (h : w.ownsRow base e size v n xs) : ∃ a cap, v = .slice a n cap := by
  obtain ⟨_, h2⟩ := h
  rcases h2 with ⟨h1, h2⟩ | ⟨g, cap, cur, hv, _⟩
  · exact ⟨none, 0, by rw [h1, h2]⟩
  · exact ⟨_, cap, hv⟩

/-- A new block, and then growth of it alone. -/
theorem sm_alloc_grown {F : Nat → Prop} {w w' : World} {o : Obj} {v : Value} (hg : (w.alloc o).grownBy w' v.ownBlock) (hv : ∀ k, v.ownBlock = some k → w.heap.size ≤ k) : Sm F w w' :=
  ⟨hg.os, hg.tape, hg.output, by have := hg.size; simp at this; omega, fun k hk _ => (hg.block k (by simp; omega) (fun e => by have := hv k e.symm; omega)).trans (Below.heap_alloc _ _ _ hk)⟩
theorem own_row {w : World} {g : Nat} {xs : List Value} {T : TypeId} (h : Row w g xs.toArray T) (n size : Nat) (hn : xs.length = n * size) (hm : n ≤ maxLen) : w.ownsRow 0 T size (.slice (some ⟨g, 0, none⟩) n n) n xs :=
  ⟨hn, .inr ⟨g, n, xs.toArray, rfl, Nat.zero_le _, h, Nat.le_refl _, hm, by simp [hn], by rw [← hn]; simp⟩⟩
theorem own_cap {w : World} {base size n cap : Nat} {e : TypeId} {a : Option Addr} {xs : List Value} (h : w.ownsRow base e size (.slice a n cap) n xs) : n ≤ cap := by
  obtain ⟨_, h2⟩ := h
  rcases h2 with ⟨h1, h2⟩ | ⟨g, cap', cur, hv, _, _, hn, _⟩
  · cases h1; omega
  · cases hv; exact hn
theorem own_zero {w : World} {base size n : Nat} {e : TypeId} {v : Value} {xs : List Value} (h : w.ownsRow base e size v n xs) : w.ownsRow 0 e size v n xs := by
  obtain ⟨h1, h2⟩ := h
  refine ⟨h1, ?_⟩
  rcases h2 with h2 | ⟨g, cap, cur, hv, hg, r⟩
  · exact .inl h2
  · exact .inr ⟨g, cap, cur, hv, Nat.zero_le _, r⟩
theorem ret_bool {a b : Bool} (h : a = b) : Ending.returned (.bool a) = .returned (.bool b) := by rw [h]
theorem ret_u64 {a b : Int} (h : a = b) : Ending.returned (.int .u64 a) = .returned (.int .u64 b) := by rw [h]
theorem and_low (t : Nat) (h : t < 18446744073709551616) : bits .and .u64 (t : Int) 4294967295 = ((t % 4294967296 : Nat) : Int) := by
  have := u64_and_nat t 4294967295 h (by decide)
  rw [show ((4294967295 : Nat) : Int) = 4294967295 from rfl] at this
  rw [this, show (4294967295 : Nat) = 2 ^ 32 - 1 from rfl, Nat.and_two_pow_sub_one_eq_mod]
theorem or_join (x y : Nat) (hx : x % 4294967296 = 0) (hx' : x < 18446744073709551616) (hy : y < 4294967296) : bits .or .u64 (x : Int) (y : Int) = ((x + y : Nat) : Int) := by
  rw [u64_or_nat x y hx' (by omega), nat_join 32 x y (by simpa using hx) (by simpa using hy)]
end Go.Proofs.Ytpmnmgemdaoigaa
