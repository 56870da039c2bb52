/- octets.Hash of one row of bytes, walked alone. -/
import Derived.Test.YthjdnhlckjchgaaLanB
namespace Go.Proofs.Ythjdnhlckjchgaa
open Go.RowKit
set_option linter.unusedVariables false
set_option linter.unusedSimpArgs false

/-- One octet goes into a hash. -/
def hstep (h : Int) (x : Nat) : Int := IntKind.u64.wrap (bits .xor .u64 h (x : Int) * 1099511628211)
def hlist (l : List Nat) : Int := l.foldl hstep 14695981039346656037
theorem hlist_next (l : List Nat) (k : Nat) (h : k < l.length) : hlist (l.take (k + 1)) = hstep (hlist (l.take k)) l[k] := by
  unfold hlist
  rw [List.take_succ_eq_append_getElem h, List.foldl_append]
  rfl
theorem hstep_range (h : Int) (x : Nat) : 0 ≤ hstep h x ∧ hstep h x < 18446744073709551616 := by
  unfold hstep
  rw [IntKind.wrap_u64]
  omega
theorem hlist_range (l : List Nat) : 0 ≤ hlist l ∧ hlist l < 18446744073709551616 := by
  suffices h : ∀ (l : List Nat) (s : Int), 0 ≤ s ∧ s < 18446744073709551616 → 0 ≤ l.foldl hstep s ∧ l.foldl hstep s < 18446744073709551616 by
    exact h l _ (by decide)
  intro l
  induction l with
  | nil => intro s h; exact h
  | cons x l ih => intro s h; exact ih _ (hstep_range _ _)

set_option maxRecDepth 100000 in
theorem ohash_c (R : Nat) (v : Value) (bs : List Nat) (hb : bs.length ≤ 1000) (hx : ∀ x ∈ bs, x < 256) (w : World) (hr : w.cell? ⟨R, 0, none⟩ = some v) (hv : w.ownsRow 0 5 1 v bs.length (ub bs)) :
    Calls Try.prog 80 #[.slice (some ⟨R, 0, none⟩) 1 1] w fun e w' => e = .returned (.int .u64 (hlist bs)) ∧ w = w' := by
  obtain ⟨a, c, rfl, hnc, -, hsrc⟩ := own_read hv
  obtain ⟨n, hn⟩ : ∃ n, n = bs.length := ⟨_, rfl⟩
  obtain ⟨H, hH⟩ : ∃ H, H = hlist bs := ⟨_, rfl⟩
  rw [← hH]
  rw [← hn] at hr hsrc hnc hb
  have HS := Lib.hid hsrc
  have HN := Lib.hid hn
  have HH := Lib.hid hH
  have HX := Lib.hid hx
  clear hv hsrc hn hH hx
  go_enter Try.func80, Try.ntmps80
  go_wp2
  go_loop [3, 10] (fun s3 s10 => (s10 = .int .i64 0 ∧ s3 = .int .u64 14695981039346656037) ∨ (s10 = .int .i64 1 ∧ s3 = .int .u64 H)) (fun s3 s10 => 1 - (intOf s10).toNat)
  case atStart => exact .inl ⟨rfl, rfl⟩
  case round =>
    rcases hrel with ⟨rfl, rfl⟩ | ⟨rfl, rfl⟩
    · go_wp2
      go_loop [3, 16] (fun s3 s16 => ∃ k : Nat, k ≤ n ∧ s16 = .int .i64 k ∧ ∃ h : Int, s3 = .int .u64 h ∧ Hid (h = hlist (bs.take k))) (fun s3 s16 => n - (intOf s16).toNat)
      case atStart => exact ⟨0, by omega, rfl, _, rfl, Lib.hid rfl⟩
      case round =>
        obtain ⟨k, hk, rfl, h, rfl, hh⟩ := hrel
        by_cases hlt : k < n
        · have j1 : (k : Int) < (n : Int) := by omega
          obtain ⟨g, rfl, -, hg, hcell⟩ := HS.out (by omega)
          have hkl : k < bs.length := by rw [← HN.out]; exact hlt
          obtain ⟨x, hxx⟩ : ∃ x, x = bs[k] := ⟨_, rfl⟩
          have hc : w.cell? ⟨g, k, none⟩ = some (.int .u8 (x : Int)) := hcell k _ (by simp [ub, hkl, hxx])
          have hx0 : x < 256 := by rw [hxx]; exact HX.out _ (List.getElem_mem hkl)
          have hx1 : IntKind.u64.wrap (x : Int) = x := by rw [IntKind.wrap_u64]; omega
          have hp : wrap64 ((k : Int) + 1) = ((k + 1 : Nat) : Int) := by unfold wrap64; omega
          have HP := Lib.hid hp
          obtain ⟨h2, hh2⟩ : ∃ h2, h2 = hstep h x := ⟨_, rfl⟩
          have hst : IntKind.u64.wrap (bits .xor .u64 h (x : Int) * 1099511628211) = h2 := hh2.symm
          have HH2 : Hid (h2 = hlist (bs.take (k + 1))) := Lib.hid (by rw [hh2, hlist_next bs k hkl, ← hh.out, hxx])
          clear hp hcell hxx hh2 HH HS
          go_wp2
          go_round
          case rel => exact ⟨k + 1, by omega, by first | rw [HP.out] | go_num, _, rfl, HH2⟩
          case measure => (try rw [HP.out]); simp only [intOf]; omega
        · have hkk : k = n := by omega
          have hhH : h = H := by rw [hh.out, HH.out, hkk, HN.out, List.take_length]
          subst hhH hkk
          clear hh HH HS
          go_wp2
          go_round
          case rel => exact .inr ⟨rfl, rfl⟩
          case measure => decide
    · go_wp2
      go_ret
      exact ⟨rfl, rfl⟩
end Go.Proofs.Ythjdnhlckjchgaa
