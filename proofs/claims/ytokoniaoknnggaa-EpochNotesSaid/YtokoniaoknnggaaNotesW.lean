/- EpochNotes, walked. -/
import Derived.Test.YtokoniaoknnggaaNoC
namespace Go.Proofs.Ytokoniaoknnggaa
open Go.RowKit
set_option linter.unusedVariables false
set_option linter.unusedSimpArgs false

def doC (x : DoV) : List Value := [.int .i64 x.1, .int .i64 x.2.1, .int .u64 (x.2.2 : Int)]
/-- The reference's answer to a call, in memory. -/
theorem ref_c {ws : List Nat} {c n : Nat} {x : DoV} (h : Small ws c) (hc : c < 1000000) (hn : 0 < n ∧ n ≤ 16) (hep : x.2.2 < 18446744073709551616) {B0 : Nat} {vW vL cd : Value} {w : World} (hV : WV B0 vW vL [ws.take (n + 1)] 1 w) {B1 : Nat} (ho : w.ownsRow B1 161 7 cd (progF n x).length (flatI (progF n x))) :
    Calls Try.prog 12 #[.agg #[vW, vL], .agg #[cd, .slice none 0 0]] w fun e w' => ∃ aT cT aM cM aW cW aL cL, e = .returned (.tuple #[.slice aT (doneF n ws x).1.length cT, .agg #[.slice aW 1 cW, .slice aL 1 cL], .slice aM (doneF n ws x).2.2.length cM]) ∧
      w'.ownsRow w.heap.size 38 1 (.slice aT (doneF n ws x).1.length cT) (doneF n ws x).1.length (u64L (doneF n ws x).1) ∧ w'.ownsRow w.heap.size 109 2 (.slice aM (doneF n ws x).2.2.length cM) (doneF n ws x).2.2.length (mks (doneF n ws x).2.2) ∧ WV w.heap.size (.slice aW 1 cW) (.slice aL 1 cL) [(doneF n ws x).2.1.take (n + 1)] 1 w' ∧ Sm (fun _ => False) w w' := by
  obtain ⟨tr, ⟨s1, m, h1, h2, h3⟩, h4, h5, h6, h7⟩ := law h hc n hn x hep
  obtain ⟨acd, ccd, hcd⟩ := own_form0 ho
  obtain ⟨vrs, g1, -⟩ := hV.ex
  obtain ⟨aw, cw, hvW⟩ := own_form0 g1
  obtain ⟨al, cl, hvL⟩ := own_form0 hV.lists
  have hrd : RecsB w.heap.size 1 (.slice none 0 0) [] w := ⟨⟨none, 0, rfl, Nat.le_refl _, fun h => absurd h (by decide)⟩, fun h => absurd h (by decide)⟩
  refine (alone_c B0 vW vL [ws.take (n + 1)] [(doneF n ws x).2.1.take (n + 1)] 1 cd (.slice none 0 0) (progF n x) 200 m s1 (fin (doneF n ws x).1) tr (true, (doneF n ws x).1) w hV (recs_own ho) hrd (by omega) (by rw [hcd]; rfl) rfl (by rw [hvW]; rfl) (by rw [hvL]; rfl) h1 h2 (by omega) rfl (by omega)).mono fun e w' h => ?_
  obtain ⟨vT, vM, vW', vL', e1, e2, e3, e4, e5⟩ := h
  have htl : tr.length = (doneF n ws x).2.2.length := by rw [← h4]; simp [mkI]
  rw [h4, htl] at e3
  obtain ⟨aT, cT, rfl⟩ := own_form0 e2
  obtain ⟨aM, cM, rfl⟩ := own_form0 e3
  obtain ⟨vrs', g1', -⟩ := e4.ex
  obtain ⟨aW, cW, rfl⟩ := own_form0 g1'
  obtain ⟨aL, cL, rfl⟩ := own_form0 e4.lists
  exact ⟨aT, cT, aM, cM, aW, cW, aL, cL, e1, e2, e3, e4, e5⟩
theorem WV.keep {B : Nat} {vW vL : Value} {ws : List (List Nat)} {nl : Nat} {w w' : World} {G : Nat → Prop} (h : WV B vW vL ws nl w) (k : Sm G w w') (hG : ∀ b, G b → ∃ c T, Row w b c T ∧ T ≠ 36 ∧ T ≠ 38 ∧ T ≠ 178) : WV B vW vL ws nl w' := by
  obtain ⟨vrs, h1, h2, h3⟩ := h.ex
  have key : ∀ (T : TypeId) (v : Value) (n : Nat) (xs : List Value), (T = 36 ∨ T = 38 ∨ T = 178) → w.ownsRow B T 1 v n xs → w'.ownsRow B T 1 v n xs := fun T v n xs hT ho => own_smF ho k (fun b hb hg => by
    obtain ⟨cc, T', hr, n1, n2, n3⟩ := hG b hg
    refine own_ne ho hr ?_ hb
    rcases hT with rfl | rfl | rfl
    · exact fun e => n1 e.symm
    · exact fun e => n2 e.symm
    · exact fun e => n3 e.symm)
  exact ⟨⟨vrs, key _ _ _ _ (.inl rfl) h1, fun i l v hl hv => ⟨key _ _ _ _ (.inr (.inl rfl)) (h2 i l v hl hv).1, (h2 i l v hl hv).2⟩, h3⟩, key _ _ _ _ (.inr (.inr rfl)) h.lists, h.few⟩
theorem Sm.cut {F G : Nat → Prop} {w w' : World} (h : Sm F w w') (hF : ∀ b, F b → G b ∨ w.heap.size ≤ b) : Sm G w w' :=
  ⟨h.os, h.tape, h.output, h.size, fun k hk hg => h.block k hk (fun hf => (hF k hf).elim hg (fun h => by omega))⟩
/-- What the reference's answer leaves. -/
def RE (wd wz : World) (aT aM aW aL : Option Addr) (cT cM cW cL : Nat) (told : List Nat) (L : List (Int × Int)) (W : List Nat) (X B : Nat) : Prop :=
  Sm (fun _ => False) wd wz ∧ wz.ownsRow 0 38 1 (.slice aT told.length cT) told.length (u64L told) ∧ wz.ownsRow 0 109 2 (.slice aM L.length cM) L.length (mks L) ∧ Row wz X #[.slice aW 1 cW, .slice aL 1 cL] 32 ∧ WV B (.slice aW 1 cW) (.slice aL 1 cL) [W] 1 wz
theorem re_set {wd w5 : World} {aT aM aW aL : Option Addr} {cT cM cW cL : Nat} {told : List Nat} {L : List (Int × Int)} {W : List Nat} {X B1 B2 B : Nat} (q : Row w5 X #[.slice none 0 0, .slice none 0 0] 32) (hX : wd.heap.size ≤ X) (ks : Sm (fun _ => False) wd w5)
    (h1 : w5.ownsRow B1 38 1 (.slice aT told.length cT) told.length (u64L told)) (h2 : w5.ownsRow B2 109 2 (.slice aM L.length cM) L.length (mks L)) (h3 : WV B (.slice aW 1 cW) (.slice aL 1 cL) [W] 1 w5) :
    RE wd ((w5.setCell ⟨X, 0, none⟩ (.slice aW 1 cW)).setCell ⟨X, 1, none⟩ (.slice aL 1 cL)) aT aM aW aL cT cM cW cL told L W X B := by
  have k : Sm (fun b => b = X) w5 ((w5.setCell ⟨X, 0, none⟩ (.slice aW 1 cW)).setCell ⟨X, 1, none⟩ (.slice aL 1 cL)) := Sm.setCell (F := fun b => b = X) (p := ⟨X, 1, none⟩) (Sm.setCell (F := fun b => b = X) (p := ⟨X, 0, none⟩) (Sm.refl _ _) rfl _) rfl _
  refine ⟨((ks.mono (F' := fun b => b = X) (fun _ h => h.elim)).trans k).new (fun b hb => by omega), own_zero (own_smF h1 k (fun b hb e => own_ne h1 q (by decide) (e ▸ hb))), own_zero (own_smF h2 k (fun b hb e => own_ne h2 q (by decide) (e ▸ hb))), (q.set 0 _).set 1 _, h3.keep k (fun b hb => ⟨_, _, hb ▸ q, by decide, by decide, by decide⟩)⟩
theorem re_new {wd w5 : World} {aT aM aW aL : Option Addr} {cT cM cW cL : Nat} {told : List Nat} {L : List (Int × Int)} {W : List Nat} {B1 B2 B : Nat} (ks : Sm (fun _ => False) wd w5)
    (h1 : w5.ownsRow B1 38 1 (.slice aT told.length cT) told.length (u64L told)) (h2 : w5.ownsRow B2 109 2 (.slice aM L.length cM) L.length (mks L)) (h3 : WV B (.slice aW 1 cW) (.slice aL 1 cL) [W] 1 w5) :
    RE wd (w5.alloc (.cells #[.slice aW 1 cW, .slice aL 1 cL] 32)) aT aM aW aL cT cM cW cL told L W w5.heap.size B := by
  have k : Sm (fun _ => False) w5 (w5.alloc (.cells #[.slice aW 1 cW, .slice aL 1 cL] 32)) := (Sm.refl _ _).alloc _
  exact ⟨ks.trans k, own_zero (own_smF h1 k (fun _ _ h => h)), own_zero (own_smF h2 k (fun _ _ h => h)), Row.new _ _ _, h3.sm k (fun _ _ h => h)⟩
/-- EpochNotes between two rounds. -/
structure NI (n S X7 i : Nat) (w wr : World) : Prop where
  ex : ∃ (ws : List Nat) (aW aL : Option Addr) (cW cL B0 : Nat), Small ws (i + 1) ∧ Dom S n ws wr ∧ Row wr X7 #[.slice aW 1 cW, .slice aL 1 cL] 32 ∧ WV B0 (.slice aW 1 cW) (.slice aL 1 cL) [ws.take (n + 1)] 1 wr
  ne : w.heap.size ≤ S ∧ S < X7
  sm : Sm (fun _ => False) w wr
set_option maxRecDepth 100000 in
set_option maxHeartbeats 12800000 in
theorem notes_walk (k : Int) (xs : List DoV) (hx : ∀ x ∈ xs, x.2.2 < 18446744073709551616) (a : Option Addr) (l c : Nat) (hl : l = xs.length) (hll : l ≤ 9223372036854775807) (w : World) (hR : Recs 3 (.slice a l c) (xs.map doC) w) :
    Calls Try.prog 3 #[.int .i64 k, .slice a l c] w fun e w' => e = .returned (.bool true) ∧ Sm (fun _ => False) w w' := by
  by_cases hk : k < 1 ∨ 16 < k
  · have HC := Lib.hid (enew_bad k hk w)
    have HW := Lib.hid (eworks_c w)
    rcases (show k < 1 ∨ (¬ k < 1 ∧ 16 < k) by omega) with j1 | ⟨j1, j2⟩
    all_goals
      go_enter Try.func3, Try.ntmps3
      go_wp2_with fail
      refine HC.out.mono ?_
      rintro e w1 ⟨rfl, rfl⟩
      go_wp2_with fail
      refine HW.out.mono ?_
      rintro e w2 ⟨rfl, h2⟩
      have H2 := Lib.hid h2
      clear h2
      go_wp2_with fail
      go_ret
      exact ⟨rfl, H2.out⟩
  · obtain ⟨n, rfl⟩ : ∃ n : Nat, k = (n : Int) := ⟨k.toNat, by omega⟩
    have hn : 0 < n ∧ n ≤ 16 := by omega
    have j1 : ¬ (n : Int) < 1 := by omega
    have j2 : ¬ (16 : Int) < (n : Int) := by omega
    have HN := Lib.hid hn
    have HC := Lib.hid (enew_ok n hn.1 hn.2 w)
    have HX := Lib.hid hx
    have HRR := Lib.hid hR
    clear hk hx hR hn
    go_enter Try.func3, Try.ntmps3
    go_wp2_with fail
    refine HC.out.mono ?_
    rintro e w1 ⟨rfl, k1, hd1⟩
    obtain ⟨S, hS⟩ : ∃ S, S = w.heap.size := ⟨_, rfl⟩
    rw [← hS] at hd1 ⊢
    have HD1 := Lib.hid hd1
    have HK1 := Lib.hid k1
    have HS := Lib.hid hS
    clear hd1 k1 hS HC
    go_wp2_with fail
    refine (slots_c S n words0 w1 HD1.out).mono ?_
    rintro e w1' ⟨rfl, rfl⟩
    go_wp2_with fail
    refine (rworld_c n HN.out.2 w1).mono ?_
    rintro e w2 ⟨vW, vL, rfl, hV, k2⟩
    obtain ⟨vrs, g1, -⟩ := hV.ex
    obtain ⟨aW, cW, hvW⟩ := own_form0 g1
    obtain ⟨aL, cL, hvL⟩ := own_form0 hV.lists
    subst hvW hvL
    obtain ⟨X7, hX7⟩ : ∃ X7, X7 = w2.heap.size := ⟨_, rfl⟩
    have HZ := Lib.hid (Row.new w2 #[.slice none 0 0, .slice none 0 0] 32)
    obtain ⟨w3, hw3⟩ : ∃ w3 : World, w3 = (w2.alloc (.cells #[.slice none 0 0, .slice none 0 0] 32)).setRow w2.heap.size #[.slice aW 1 cW, .slice aL 1 cL] := ⟨_, rfl⟩
    have k3 : Sm (fun _ => False) w2 w3 := by
      rw [hw3]
      exact ⟨rfl, rfl, rfl, by simp [World.setRow], fun k hk _ => (setRow_other _ _ k _ (by omega)).trans (Below.heap_alloc _ _ _ hk)⟩
    have r3 : Row w3 X7 #[.slice aW 1 cW, .slice aL 1 cL] 32 := by rw [hw3, hX7]; exact HZ.out.setRow
    have HNI := Lib.hid (show NI n S X7 0 w w3 from by
      have hk := k2.trans k3
      refine ⟨⟨words0, aW, aL, cW, cL, w1.heap.size, ⟨rfl, fun k => ?_⟩, HD1.out.sm hk (fun h => h), r3, ?_⟩, ⟨by have := HS.out; omega, ?_⟩, (HK1.out.trans hk)⟩
      · unfold words0
        cases k with
        | zero => simp
        | succ m =>
          simp only [List.getD, List.getElem?_cons_succ, List.getElem?_replicate]
          split <;> simp
      · have e : words0.take (n + 1) = 1 :: List.replicate n 0 := by
          show 1 :: (List.replicate 16 0).take n = _
          rw [List.take_replicate, Nat.min_eq_left HN.out.2]
        rw [e]
        exact hV.sm k3 (fun _ _ h => h)
      · have := HD1.out.row.lt
        have := k2.size
        omega)
    have HW3 := Lib.hid hw3
    have HX7 := Lib.hid hX7
    clear hw3 hX7 k3 r3 hV k2 g1
    go_upto_block 0 with (refine wpList_store_row rfl 32 (.tmp 7) (.tmp 47) rfl w2.heap.size #[.slice aW 1 cW, .slice aL 1 cL] (by simp [Act.eval, Act.put]) (by simp [Act.eval, Act.put]) 32 _ HZ.out (by kernel_rfl) (by rfl) (by simp [Value.oneCell']) ?_)
    rw [← HW3.out, ← HX7.out]
    clear HZ HW3 HX7 HD1 HK1 HS
    go_wp2_with fail
    go_loopw [8] (fun s8 wr => ∃ i : Nat, i ≤ xs.length ∧ i ≤ 60 ∧ s8 = .int .i64 i ∧ Hid (NI n S X7 i w wr)) (fun s8 wr => 60 - (intOf s8).toNat)
    case atStart => exact ⟨0, Nat.zero_le _, by decide, rfl, HNI⟩
    case round =>
      clear HNI
      obtain ⟨i, hi, hi60, rfl, HNI⟩ := hrel
      by_cases hgo : i < xs.length ∧ i < 60
      · obtain ⟨hlt, hlt60⟩ := hgo
        obtain ⟨⟨ws, aW, aL, cW, cL, B0, hsm, hdom, hr7, hwv⟩, ⟨hne1, hne2⟩, hk⟩ := HNI.out
        have q1 : (i : Int) < (xs.length : Int) := by omega
        have q2 : (i : Int) < 60 := by omega
        have q3 : (0 : Int) ≤ (i : Int) := Int.natCast_nonneg _
        obtain ⟨a', c', ha', -, hrow⟩ := HRR.out
        obtain ⟨b0, o0, hab, hbl, hrg⟩ := hrow (by simp; omega)
        simp only [Value.slice.injEq] at ha'
        obtain ⟨rfl, -, -⟩ := ha'
        subst hab
        obtain ⟨x, hxe⟩ : ∃ x, x = xs[i] := ⟨_, rfl⟩
        have hrx := hrg i (by simpa using hlt)
        rw [List.getElem_map, ← hxe] at hrx
        have hxp := HX.out x (by rw [hxe]; exact List.getElem_mem _)
        have HRX := Lib.hid (show ∀ W : World, Sm (fun _ => False) w W → W.cell? ⟨b0, o0 + i * 3, none⟩ = some (.int .i64 x.1) ∧ W.cell? ⟨b0, o0 + i * 3 + 1, none⟩ = some (.int .i64 x.2.1) ∧ W.cell? ⟨b0, o0 + i * 3 + 2, none⟩ = some (.int .u64 (x.2.2 : Int)) from fun W kk => by
          have f := fun (u : Nat) (v : Value) (h : (doC x)[u]? = some v) => (kk.cell (p := ⟨b0, o0 + i * 3 + u, none⟩) hbl (fun h => h)).trans (hrx u v h)
          exact ⟨f 0 _ rfl, f 1 _ rfl, f 2 _ rfl⟩)
        have HNN := Lib.hid (newNotes_c wr)
        have HALL := Lib.hid (show _ ∧ _ ∧ _ ∧ _ ∧ _ from ⟨hsm, hdom, hr7, hwv, hk⟩)
        have HNE := Lib.hid (show w.heap.size ≤ S ∧ S < X7 from ⟨hne1, hne2⟩)
        have HXP := Lib.hid hxp
        clear hsm hdom hr7 hwv hk hrx hrg hrow hxp hxe hne1 hne2 hbl
        go_wp2_with fail
        refine HNN.out.mono ?_
        rintro e wn ⟨rfl, kn, hnote, hnz⟩
        obtain ⟨nb, hnb⟩ : ∃ nb, nb = wr.heap.size := ⟨_, rfl⟩
        rw [← hnb] at hnote hnz ⊢
        obtain ⟨d0, d1, d2⟩ := HRX.out wn (HALL.out.2.2.2.2.trans kn)
        have hdomn := HALL.out.2.1.sm kn (fun h => h)
        have hSnb : S < nb := by have := HALL.out.2.1.row.lt; omega
        have HDONE := Lib.hid (done_c (gateG_note nb) S n ws hSnb x HXP.out (by have := HALL.out.1.2 0; omega) wn (by omega) [] (by decide) hnote hdomn)
        have HKN := Lib.hid kn
        have HNB := Lib.hid (show nb = wr.heap.size ∧ wn.heap.size = nb + 1 ∧ S < nb from ⟨hnb, hnz, hSnb⟩)
        clear kn hnote hnz hdomn hnb hSnb HNN
        go_wp2_with fail
        refine HDONE.out.mono ?_
        rintro e wd ⟨vD, rfl, hown, hnoted, ksd, hdomd⟩
        obtain ⟨aD, cD, hvD⟩ := own_form0 hown
        subst hvD
        have HEND := Lib.hid (show _ ∧ _ ∧ _ ∧ _ from ⟨hown, hnoted, ksd, hdomd⟩)
        clear hown hnoted ksd hdomd HDONE d0 d1 d2
        obtain ⟨R, hRe⟩ : ∃ R, R = doneF n ws x := ⟨_, rfl⟩
        rw [← hRe] at HEND ⊢
        have hkd : Sm (fun b => b = S) wr wd := ((HKN.out.mono (F' := fun b => b = S ∨ nb ≤ b) (fun _ h => h.elim)).trans HEND.out.2.2.1).cut (fun b hb => hb.imp_right fun h => by have := HNB.out.1; omega)
        have hkw : Sm (fun _ => False) w wd := ((HALL.out.2.2.2.2.mono (F' := fun b => b = S) (fun _ h => h.elim)).trans hkd).new (fun b hb => by have := HNE.out.1; omega)
        have hr7 := HALL.out.2.2.1.sm hkd (by have := HNE.out.2; omega)
        have hwv : WV B0 (.slice aW 1 cW) (.slice aL 1 cL) [ws.take (n + 1)] 1 wd := HALL.out.2.2.2.1.keep hkd (fun b hb => ⟨_, _, hb ▸ HALL.out.2.1.row, by decide, by decide, by decide⟩)
        have HWD := Lib.hid (show _ ∧ _ ∧ _ from ⟨hkw, hr7, hwv⟩)
        have HRE := Lib.hid hRe
        have H13 := Lib.hid (fun (W : World) (_ : Sm (fun _ => False) wd W) => call_c n HN.out x W)
        have H12 := Lib.hid (fun (W4 W : World) (cd : Value) (B1 : Nat) (k4 : Sm (fun _ => False) wd W4) (kW : Sm (fun _ => False) W4 W) (ho : W4.ownsRow B1 161 7 cd (progF n x).length (flatI (progF n x))) =>
          ref_c HALL.out.1 (by omega : i + 1 < 1000000) HN.out HXP.out (hwv.sm (k4.trans kW) (fun _ _ h => h)) (own_smF ho kW (fun _ _ h => h)))
        rw [← hRe] at H12
        have hS0 : wd.cell? ⟨X7, 0, none⟩ = some (.slice aW 1 cW) ∧ wd.cell? ⟨X7, 1, none⟩ = some (.slice aL 1 cL) ∧ wd.cell? ⟨b0, o0 + i * 3, none⟩ = some (.int .i64 x.1) ∧ wd.cell? ⟨b0, o0 + i * 3 + 1, none⟩ = some (.int .i64 x.2.1) ∧ wd.cell? ⟨b0, o0 + i * 3 + 2, none⟩ = some (.int .u64 (x.2.2 : Int)) := ⟨hr7.cell 0, hr7.cell 1, HRX.out wd hkw⟩
        have HKEEP := Lib.hid (show ∀ W : World, Sm (fun _ => False) wd W → W.cell? ⟨X7, 0, none⟩ = some (.slice aW 1 cW) ∧ W.cell? ⟨X7, 1, none⟩ = some (.slice aL 1 cL) ∧ W.cell? ⟨b0, o0 + i * 3, none⟩ = some (.int .i64 x.1) ∧ W.cell? ⟨b0, o0 + i * 3 + 1, none⟩ = some (.int .i64 x.2.1) ∧ W.cell? ⟨b0, o0 + i * 3 + 2, none⟩ = some (.int .u64 (x.2.2 : Int)) from fun W kk =>
          ⟨(hr7.sm kk (fun h => h)).cell 0, (hr7.sm kk (fun h => h)).cell 1, HRX.out W (hkw.trans kk)⟩)
        clear hkd hkw hr7 hwv hRe
        go_upto_region 12 with fail
        go_cut [11, 12, 13] (fun s11 s12 s13 wz => ∃ (X B0' : Nat) (aT aM aW' aL' : Option Addr) (cT cM cW' cL' : Nat), s11 = .slice aT R.1.length cT ∧ s12 = .pointer (some ⟨X, 0, none⟩) ∧ s13 = .slice aM R.2.2.length cM ∧ Hid (RE wd wz aT aM aW' aL' cT cM cW' cL' R.1 R.2.2 (R.2.1.take (n + 1)) X B0'))
        case first =>
          go_region_held3 (fun w' => w'.cell? ⟨X7, 0, none⟩ = some (.slice aW 1 cW) ∧ w'.cell? ⟨X7, 1, none⟩ = some (.slice aL 1 cL) ∧ w'.cell? ⟨b0, o0 + i * 3, none⟩ = some (.int .i64 x.1) ∧ w'.cell? ⟨b0, o0 + i * 3 + 1, none⟩ = some (.int .i64 x.2.1) ∧ w'.cell? ⟨b0, o0 + i * 3 + 2, none⟩ = some (.int .u64 (x.2.2 : Int)))
            (first | go_keep | exact hS0 | exact hcs | exact HKEEP.out _ (((Sm.refl _ _).alloc _).drew) | exact HKEEP.out _ ((Sm.refl _ _).alloc _) | exact HKEEP.out _ (ks4.alloc _) | exact HKEEP.out _ (ks5.alloc _) | exact HKEEP.out _ ((ks5.setNew hq5 _).setNew hq5 _) | assumption)
            (first
              | (go_at_call 13; refine (H13.out _ (by first | exact (Sm.refl _ _).drew | exact ((Sm.refl _ _).alloc _).drew)).mono ?_; rintro e w4 ⟨cd, rfl, hown4, k4⟩; obtain ⟨acd, ccd, hcd⟩ := own_form0 hown4; subst hcd; have ks4 : Sm (fun _ => False) wd w4 := (by first | exact ((Sm.refl _ _).drew).trans k4 | exact (((Sm.refl _ _).alloc _).drew).trans k4); have hcs := HKEEP.out w4 ks4; first | (have q4 : Row w4 wd.heap.size #[.slice none 0 0, .slice none 0 0] 32 := (Row.drew (Row.new wd _ _)).sm k4 (fun h => h)) | skip)
              | (go_at_call 12; refine (H12.out w4 _ _ _ ks4 (by first | exact Sm.refl _ _ | exact (Sm.refl _ _).alloc _) hown4).mono ?_; rintro e w5 ⟨aT, cT, aM, cM, aW', cW', aL', cL', rfl, ho1, ho2, hv5, k5⟩; have ks5 : Sm (fun _ => False) wd w5 := (by first | exact ks4.trans k5 | exact (ks4.alloc _).trans k5); have hcs := HKEEP.out w5 ks5; first | (have q5 : Row w5 wd.heap.size #[.slice none 0 0, .slice none 0 0] 32 := q4.sm k5 (fun h => h); have hq5 : wd.heap.size ≤ wd.heap.size := Nat.le_refl _; have x0 : w5.cell? ⟨wd.heap.size, 0, none⟩ = some (.slice none 0 0) := q5.cell 0; have x1 : w5.cell? ⟨wd.heap.size, 1, none⟩ = some (.slice none 0 0) := q5.cell 1; have y0 : w5.frozen? ⟨wd.heap.size, 0, none⟩ = false := q5.free 0; have y1 : w5.frozen? ⟨wd.heap.size, 1, none⟩ = false := q5.free 1) | (have q5 : Row w5 w4.heap.size #[.slice none 0 0, .slice none 0 0] 32 := (Row.new w4 _ _).sm k5 (fun h => h); have hq5 : wd.heap.size ≤ w4.heap.size := ks4.size; have x0 : w5.cell? ⟨w4.heap.size, 0, none⟩ = some (.slice none 0 0) := q5.cell 0; have x1 : w5.cell? ⟨w4.heap.size, 1, none⟩ = some (.slice none 0 0) := q5.cell 1; have y0 : w5.frozen? ⟨w4.heap.size, 0, none⟩ = false := q5.free 0; have y1 : w5.frozen? ⟨w4.heap.size, 1, none⟩ = false := q5.free 1) | skip))
          all_goals
            have HO1 := Lib.hid ho1
            have HO2 := Lib.hid ho2
            have HV5 := Lib.hid hv5
            have HKS5 := Lib.hid ks5
            clear ho1 ho2 hv5 ks5 hcs hS0 k4 k5 hown4
            go_wp2_with fail
            go_meet
            case rel =>
              first
                | exact ⟨_, _, aT, aM, aW', aL', cT, cM, cW', cL', rfl, rfl, rfl, Lib.hid (re_new HKS5.out HO1.out HO2.out HV5.out)⟩
                | exact ⟨_, _, aT, aM, aW', aL', cT, cM, cW', cL', rfl, rfl, rfl, Lib.hid (re_set q5 hq5 HKS5.out HO1.out HO2.out HV5.out)⟩
        case rest =>
          obtain ⟨X12, B1, aT, aM, aW', aL', cT, cM, cW', cL', rfl, rfl, rfl, HRE2⟩ := hcut
          obtain ⟨kz, hz1, hz2, hz3, hz4⟩ := HRE2.out
          have HLN := Lib.hid (show R.1.length < 1000000 ∧ R.2.2.length < 1000000 from by
            obtain ⟨tr, -, e4, e5, e6, -⟩ := law HALL.out.1 (by omega : i + 1 < 1000000) n HN.out x HXP.out
            rw [← HRE.out] at e4 e6
            have : tr.length = R.2.2.length := by rw [← e4]; simp [mkI]
            omega)
          have HSW := Lib.hid (sameWords_c _ _ _ _ R.1 HLN.out.1 wc (own_smF HEND.out.1 kz (fun _ _ h => h)) hz1)
          have HKZ := Lib.hid kz
          have HZ2 := Lib.hid hz2
          have HZ3 := Lib.hid hz3
          have HZ4 := Lib.hid hz4
          clear kz hz1 hz2 hz3 hz4 hS0 HRE2 H12 H13 HKEEP
          go_wp2_with fail
          refine HSW.out.mono ?_
          rintro e w6 ⟨rfl, k6⟩
          have hno : Noted nb w6 R.2.2 := by
            have := HEND.out.2.1
            rw [List.nil_append] at this
            exact (this.sm HKZ.out (fun _ _ h => h)).sm k6 (fun _ _ h => h)
          have HMK := Lib.hid (marks_c nb R.2.2 HLN.out.2 w6 hno)
          have HK6 := Lib.hid k6
          clear k6 hno HSW
          go_wp2_with fail
          refine HMK.out.mono ?_
          rintro e w7 ⟨vm, rfl, hm7, k7⟩
          obtain ⟨am, cm, hvm⟩ := own_form0 hm7
          subst hvm
          have HSM := Lib.hid (sameMarks_c _ _ _ _ R.2.2 HLN.out.2 w7 hm7 (own_smF HZ2.out (HK6.out.trans k7) (fun _ _ h => h)))
          have HK7 := Lib.hid (HK6.out.trans k7)
          clear hm7 k7 HMK
          go_wp2_with fail
          refine HSM.out.mono ?_
          rintro e w8 ⟨rfl, k8⟩
          have hz8 : Sm (fun _ => False) wc w8 := HK7.out.trans k8
          have hd8 : Sm (fun _ => False) wd w8 := HKZ.out.trans hz8
          have r12 := HZ3.out.sm hz8 (fun h => h)
          have r7 := HWD.out.2.1.sm hd8 (fun h => h)
          have x0 : w8.cell? ⟨X12, 0, none⟩ = some (.slice aW' 1 cW') := r12.cell 0
          have x1 : w8.cell? ⟨X12, 1, none⟩ = some (.slice aL' 1 cL') := r12.cell 1
          have y0 : w8.cell? ⟨X7, 0, none⟩ = some (.slice aW 1 cW) := r7.cell 0
          have y1 : w8.cell? ⟨X7, 1, none⟩ = some (.slice aL 1 cL) := r7.cell 1
          have g0 : w8.frozen? ⟨X7, 0, none⟩ = false := r7.free 0
          have g1 : w8.frozen? ⟨X7, 1, none⟩ = false := r7.free 1
          have k9 : Sm (fun b => b = X7) w8 ((w8.setCell ⟨X7, 0, none⟩ (.slice aW' 1 cW')).setCell ⟨X7, 1, none⟩ (.slice aL' 1 cL')) := Sm.setCell (F := fun b => b = X7) (p := ⟨X7, 1, none⟩) (Sm.setCell (F := fun b => b = X7) (p := ⟨X7, 0, none⟩) (Sm.refl _ _) rfl _) rfl _
          have HNEW := Lib.hid (show NI n S X7 (i + 1) w ((w8.setCell ⟨X7, 0, none⟩ (.slice aW' 1 cW')).setCell ⟨X7, 1, none⟩ (.slice aL' 1 cL')) from by
            refine ⟨⟨R.2.1, aW', aL', cW', cL', B1, ?_, (HEND.out.2.2.2.sm hd8 (fun h => h)).sm k9 (by have := HNE.out.2; omega), (r7.set 0 _).set 1 _, (HZ4.out.sm hz8 (fun _ _ h => h)).keep k9 (fun b hb => ⟨_, _, hb ▸ r7, by decide, by decide, by decide⟩)⟩, HNE.out, ?_⟩
            · rw [HRE.out]
              exact done_small HALL.out.1 n x
            · exact (((HWD.out.1.trans hd8).mono (F' := fun b => b = X7) (fun _ h => h.elim)).trans k9).new (fun b hb => by have := HNE.out; omega))
          clear hz8 hd8 r12 r7 k9 k8 HSM
          go_wp2_with fail
          go_roundw
          case rel => exact ⟨i + 1, hlt, hlt60, by first | rfl | go_num, HNEW⟩
          case measure => simp only [intOf]; omega
      · have HW := Lib.hid (eworks_c wr)
        have HK := Lib.hid HNI.out.sm
        rcases (show ¬ i < xs.length ∨ (i < xs.length ∧ ¬ i < 60) by omega) with hx1 | ⟨hx1, hx2⟩
        · have j3 : ¬ (i : Int) < (xs.length : Int) := by omega
          clear hgo
          go_wp2_with fail
          refine HW.out.mono ?_
          rintro e w2 ⟨rfl, h2⟩
          have H2 := Lib.hid (HK.out.trans h2)
          clear h2
          go_wp2_with fail
          go_ret
          exact ⟨rfl, H2.out⟩
        · have j3 : (i : Int) < (xs.length : Int) := by omega
          have j4 : ¬ (i : Int) < 60 := by omega
          clear hgo
          go_wp2_with fail
          refine HW.out.mono ?_
          rintro e w2 ⟨rfl, h2⟩
          have H2 := Lib.hid (HK.out.trans h2)
          clear h2
          go_wp2_with fail
          go_ret
          exact ⟨rfl, H2.out⟩
end Go.Proofs.Ytokoniaoknnggaa
