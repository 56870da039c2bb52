/- hold: swap, Put (nothing kept so far). -/
import Derived.Test.YtpmnmgemdaoigaaHoD
import Derived.Deep.RegionHeld3
namespace Go.Proofs.Ytpmnmgemdaoigaa
open Go.RowKit Go.MuLone
set_option linter.unusedVariables false
set_option linter.unusedSimpArgs false

theorem info_parts {T : TypeId} {z : Option Value} {s b : Nat} (h : (Try.prog.info? T).map (fun i => (i.zero, i.size, i.bytes)) = some (z, s, b)) :
    ∃ i, Try.prog.info? T = some i ∧ i.zero = z ∧ i.size = s ∧ i.bytes = b := by
  cases h' : Try.prog.info? T with
  | none => simp [h'] at h
  | some i =>
    simp [h'] at h
    exact ⟨i, rfl, h.1, h.2.1, h.2.2⟩
theorem info_kept : (Try.prog.info? 94).map (fun i => (i.zero, i.size, i.bytes)) = some (some (.agg #[.pointer none, .int .u64 0]), 2, 16) := by kernel_rfl
theorem Row.ne {w : World} {a b : Nat} {c c' : Array Value} {T T' : TypeId} (h : Row w a c T) (k : Row w b c' T') (hT : T ≠ T') : a ≠ b := by
  rintro rfl
  unfold Row at h k
  rw [h] at k
  simp only [Option.some.injEq, Obj.cells.injEq] at k
  exact hT k.2.1
theorem own_base {w : World} {base base' size n : Nat} {e : TypeId} {v : Value} {xs : List Value} (h : w.ownsRow base e size v n xs) (hb : base' ≤ base) : w.ownsRow base' e size v n xs := by
  obtain ⟨h1, h2⟩ := h
  refine ⟨h1, ?_⟩
  rcases h2 with h2 | ⟨g, cap, cur, hv, hg, r⟩
  · exact .inl h2
  · exact .inr ⟨g, cap, cur, hv, by omega, r⟩
def keptC (p e : Nat) : List Value := [.pointer (some ⟨p, 0, none⟩), .int .u64 (e : Int)]
set_option maxRecDepth 100000 in
theorem swap_c (h p d n : Nat) (v v2 : ByteArray) (ver : Nat) (hv : ver < 1000) (ws : List Nat) (w : World) (hr : Row w h (holdC p d 0 (.slice none 0 0)) 86) (hp : Row w p (pubC v ver) 89) (hd : Dom d n ws w) :
    Calls Try.prog 35 #[.pointer (some ⟨h, 0, none⟩), .nilIface, .pointer (some ⟨p, 0, none⟩), .string v2] w fun e w' => e = .returned (.tuple #[.int .u64 ((ver + 1 : Nat) : Int), .bool true]) ∧ Sm (fun b => b = h) w w' ∧
      ∃ p' o, Row w' h (holdC p' d 0 o) 86 ∧ Row w' p' (pubC v2 (ver + 1)) 89 ∧ w'.ownsRow w.heap.size 94 2 o 1 (keptC p (ws.getD 0 0)) := by
  have c1 : w.cell? ⟨p, 1, none⟩ = some (.int .u64 (ver : Int)) := hp.cell 1
  obtain ⟨E, hE⟩ : ∃ E, E = ws.getD 0 0 := ⟨_, rfl⟩
  rw [← hE]
  have HE := Lib.hid hE
  clear hE
  have hw1 : IntKind.u64.wrap ((ver : Int) + 1) = ((ver + 1 : Nat) : Int) := by
    have : ((ver + 1 : Nat) : Int) = (ver : Int) + 1 := by omega
    rw [this]
    simp only [IntKind.wrap_u64]
    omega
  have hne1 := hr.ne hp (by decide)
  have hne2 := hr.ne hd.row (by decide)
  have hne3 := hp.ne hd.row (by decide)
  go_enter_defers Try.func35, Try.ntmps35
  go_wp2_with fail
  refine (step_nil _ w).mono ?_
  rintro e w1 ⟨rfl, rfl⟩
  go_wp2_with fail
  have HC := Lib.hid (show ∀ W q, Sm (fun _ => False) w W → Row W q (pubC v2 (ver + 1)) 89 → Calls Try.prog 56 #[.pointer (some ⟨h, 0, none⟩), .pointer (some ⟨p, 0, none⟩), .pointer (some ⟨q, 0, none⟩)] W fun e w' => e = .returned (.bool true) ∧ W.setCell ⟨h, 0, none⟩ (.pointer (some ⟨q, 0, none⟩)) = w' from fun W q k kq => by
    have hr' := hr.sm k (fun h => h)
    exact pcas ⟨h, 0, none⟩ p q _ _ W (hr'.cell 0) (hr'.free 0) (hp.sm k (fun h => h)) (by simp [pubC]) kq (by simp [pubC]))
  go_region_held3 (fun w' => w'.cell? ⟨p, 1, none⟩ = some (.int .u64 (ver : Int))) (first | go_keep | assumption) ((go_at_call 56; refine (HC.out _ _ (by first | exact ((Sm.refl _ _).alloc _).drew | exact (Sm.refl _ _).drew.alloc _) (by first | exact Row.drew (Row.new _ _ _) | exact Row.new _ _ _)).mono ?_; rintro e w2 ⟨rfl, rfl⟩))
  obtain ⟨q, hq⟩ : ∃ q, q = w.heap.size := ⟨_, rfl⟩
  rw [← hq]
  generalize hW : ((w.alloc (Obj.cells #[Value.string v2, Value.int IntKind.u64 ((ver : Int) + 1)] 89)).setCell ⟨h, 0, none⟩ (Value.pointer (some ⟨q, 0, none⟩))).drew = w2
  have ha : Sm (fun b => b = h) w w2 := by rw [← hW]; exact (((Sm.refl _ _).alloc _).setCell (F := fun b => b = h) (p := ⟨h, 0, none⟩) rfl _).drew
  have hr2 : Row w2 h (holdC q d 0 (.slice none 0 0)) 86 := by rw [← hW]; exact Row.drew ((hr.alloc _).set 0 _)
  have hhq : h ≠ q := by rw [hq]; have := hr.lt; omega
  have hp2 : Row w2 p (pubC v ver) 89 := by rw [← hW]; exact Row.drew ((hp.alloc _).set_ne (by simpa using hne1) _)
  have hq2 : Row w2 q (pubC v2 (ver + 1)) 89 := by rw [← hW]; refine Row.drew (Row.set_ne ?_ (by simpa using hhq) _); rw [hq]; exact Row.new _ _ _
  have hd2 : Dom d n ws w2 := hd.sm ha (fun e => hne2 e.symm)
  have hpq : p ≠ q := by rw [hq]; have := hp.lt; omega
  have c2 : w2.cell? ⟨h, 1, none⟩ = some (.pointer (some ⟨d, 0, none⟩)) := hr2.cell 1
  have HA := Lib.hid ha
  have HW1 := Lib.hid hw1
  clear hW hr hp c1 hd ha hw1 HC hq
  go_wp2_with fail
  have HN := now_nil d n ws w2 hd2
  rw [← HE.out] at HN
  refine HN.mono ?_
  clear HN
  rintro e w3 ⟨rfl, hs3⟩
  have ha3 : Sm (fun b => b = h) w w3 := HA.out.trans (hs3.mono (by simp))
  have hr3 := hr2.sm hs3 (fun h => h)
  have hp3 := hp2.sm hs3 (fun h => h)
  have hq3 := hq2.sm hs3 (fun h => h)
  have HA3 := Lib.hid ha3
  have hlk : w3.cell? ⟨h, 2, none⟩ = some (.int .i32 0) := hr3.cell 2
  clear HA hr2 hp2 hq2 hd2 c2 hs3 ha3
  go_wp2_with fail
  refine (lock_free muLib ⟨h, 2, none⟩ w3 hlk (hr3.free 2)).mono ?_
  rintro e w4 ⟨rfl, hw4⟩
  have hr4 : Row w4 h (holdC q d 1 (.slice none 0 0)) 86 := by rw [hw4]; exact hr3.set 2 _
  have hp4 : Row w4 p (pubC v ver) 89 := by rw [hw4]; exact hp3.set_ne (by simpa using hne1) _
  have hq4 : Row w4 q (pubC v2 (ver + 1)) 89 := by rw [hw4]; exact hq3.set_ne (by simpa using hhq) _
  have HA4 := Lib.hid (show Sm (fun b => b = h) w w4 by rw [hw4]; exact HA3.out.setCell (F := fun b => b = h) (p := ⟨h, 2, none⟩) rfl _)
  have c4 : w4.cell? ⟨h, 4, none⟩ = some (.slice none 0 0) := hr4.cell 4
  obtain ⟨i0, hi, hz0, hz1, hz2⟩ := info_parts info_kept
  have HI := Lib.hid hi
  have HZ := Lib.hid (And.intro hz0 (And.intro hz1 hz2))
  clear hi hz0 hz1 hz2 hlk hr3 hp3 hq3 HA3 hw4
  go_wp2_with (at_builtin; refine wpList_append_own _ rfl (.tmp 48) (.tmp 52) 84 rfl w4.heap.size 94 i0 (.agg #[.pointer none, .int .u64 0]) 2 16 Try.underlying84 HI.out HZ.out.1 HZ.out.2.1 HZ.out.2.2 rfl (by decide) _ 0 [] rfl (World.ownsRow_nil _ _ _ _) ⟨w4.heap.size, 0, none⟩ 1 1 (keptC p (E)) rfl rfl (new_cells w4 (keptC p (E)) 94) (by simp [keptC, Value.oneCell']) (by unfold maxLen; omega) (by omega) (by simp) ?_)
  intro v' w5 hown hgr _
  have hs5 : Sm (fun _ => False) w4 w5 := sm_alloc_grown hgr (by simp [Value.ownBlock])
  obtain ⟨av, cv, hav⟩ := own_form0 hown
  subst hav
  have hr5 := hr4.sm hs5 (fun h => h)
  have hp5 := hp4.sm hs5 (fun h => h)
  have hq5 := hq4.sm hs5 (fun h => h)
  have c5 : w5.cell? ⟨h, 4, none⟩ = some (.slice none 0 0) := hr5.cell 4
  have f5 : w5.frozen? ⟨h, 4, none⟩ = false := hr5.free 4
  have hr6 : Row (w5.setCell ⟨h, 4, none⟩ (.slice av 1 cv)) h (holdC q d 1 (.slice av 1 cv)) 86 := hr5.set 4 _
  have hp6 : Row (w5.setCell ⟨h, 4, none⟩ (.slice av 1 cv)) p (pubC v ver) 89 := hp5.set_ne (by simpa using hne1) _
  have hq6 : Row (w5.setCell ⟨h, 4, none⟩ (.slice av 1 cv)) q (pubC v2 (ver + 1)) 89 := hq5.set_ne (by simpa using hhq) _
  have hs6 : Sm (fun b => b = h) w4 (w5.setCell ⟨h, 4, none⟩ (.slice av 1 cv)) := (hs5.mono (by simp)).setCell (F := fun b => b = h) (p := ⟨h, 4, none⟩) rfl _
  have hlt := hr4.lt
  have hwz := HA4.out.size
  have ho6 : (w5.setCell ⟨h, 4, none⟩ (.slice av 1 cv)).ownsRow w4.heap.size 94 2 (.slice av 1 cv) 1 (keptC p E) := own_sm hown (F := fun b => b = h) ((Sm.refl _ _).setCell (F := fun b => b = h) (p := ⟨h, 4, none⟩) rfl _) (fun b hb e => by omega)
  have c6 : (w5.setCell ⟨h, 4, none⟩ (.slice av 1 cv)).cell? ⟨p, 1, none⟩ = some (.int .u64 (ver : Int)) := hp6.cell 1
  have HR6 := Lib.hid hr6
  have HQ6 := Lib.hid hq6
  have HS6 := Lib.hid (HA4.out.trans hs6)
  have HO6 := Lib.hid ho6
  have hw1 := HW1.out
  clear hr6 hp6 hq6 hs6 ho6 hown hgr hr5 hp5 hq5 hs5 hr4 hp4 hq4 c4 HA4
  go_wp2
  refine leaves_cons (f := 25) (args := #[.pointer (some ⟨h, 2, none⟩)]) (by simp) (by simp [go_sem]) ?_
  refine (unlock_deferred muLib ⟨h, 2, none⟩ .returning _ (HR6.out.cell 2) (HR6.out.free 2)).mono ?_
  rintro e u' w7 ⟨rfl, rfl, hw7⟩
  have hr7 : Row w7 h (holdC q d 0 (.slice av 1 cv)) 86 := by rw [hw7]; exact HR6.out.set 2 _
  have hq7 : Row w7 q (pubC v2 (ver + 1)) 89 := by rw [hw7]; exact HQ6.out.set_ne (by simpa using hhq) _
  have hs7 : Sm (fun b => b = h) w w7 := by rw [hw7]; exact HS6.out.setCell (F := fun b => b = h) (p := ⟨h, 2, none⟩) rfl _
  have ho7 : w7.ownsRow w.heap.size 94 2 (.slice av 1 cv) 1 (keptC p E) := by
    rw [hw7]
    exact own_base (own_sm HO6.out (F := fun b => b = h) ((Sm.refl _ _).setCell (F := fun b => b = h) (p := ⟨h, 2, none⟩) rfl _) (fun b hb e => by omega)) hwz
  exact ⟨_, results_tmp2 rfl _ _ _, rfl, hs7, q, _, hr7, hq7, ho7⟩
end Go.Proofs.Ytpmnmgemdaoigaa
