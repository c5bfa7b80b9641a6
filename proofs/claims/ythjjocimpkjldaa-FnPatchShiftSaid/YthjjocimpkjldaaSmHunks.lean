/- Walks: the laws' own comparison of hunks, where they are the same. -/
import Derived.Test.YthjjocimpkjldaaSmTexts
namespace Go.Proofs.Ythjjocimpkjldaa
open Go.RowKit

set_option maxHeartbeats 800000 in
theorem smHunks_same (A1 A2 : Option Addr) (n1 c1 n2 c2 : Nat) (xs : List PHunk) (w : World) (lo hi lo' hi' : Nat) (h1 : Rep w lo hi (encHunks xs) (.slice A1 n1 c1)) (h2 : Rep w lo' hi' (encHunks xs) (.slice A2 n2 c2)) (hh : hi ≤ w.heap.size) (hh' : hi' ≤ w.heap.size) :
    Calls Try.prog 26 #[.slice A1 n1 c1, .slice A2 n2 c2] w fun e w' => e = .returned (.bool true) ∧ Below w.heap.size w w' := by
  have hl1 := Hunks.n h1
  have hl2 := Hunks.n h2
  obtain ⟨hc1, hm1⟩ := Hunks.cap h1
  subst hl1 hl2
  go_enter Try.func26, Try.ntmps26
  go_wp2
  go_loopw [5] (fun i wr => ∃ k : Nat, k ≤ xs.length ∧ i = .int .i64 k ∧ Below w.heap.size w wr) (fun i _ => xs.length - (intOf i).toNat)
  case atStart => exact ⟨0, Nat.zero_le _, rfl, Below.refl _ _⟩
  case round =>
    obtain ⟨k, hk, rfl, hb⟩ := hrel
    by_cases hlt : k < xs.length
    · have hs := hb.size
      obtain ⟨b1, o1, x, rfl, _, _, hx, Aa1, na1, ca1, Aa2, na2, ca2, d0, d1, r1, d2, r2⟩ := Hunks.at (h1.keep hb hh) hlt
      obtain ⟨b2, o2, y, rfl, _, _, hy, Ab1, nb1, cb1, Ab2, nb2, cb2, f0, f1, r3, f2, r4⟩ := Hunks.at (h2.keep hb hh') hlt
      rw [hx] at hy
      obtain rfl : x = y := by simpa using hy
      have hlt' : (k : Int) < (xs.length : Int) := by omega
      have q0 := Later.cell d0
      have q1 := Later.cell d1
      have q2 := Later.cell d2
      have p0 := Later.cell f0
      have p1 := Later.cell f1
      have p2 := Later.cell f2
      have hhr : hi ≤ wr.heap.size := by omega
      have hhr' : hi' ≤ wr.heap.size := by omega
      clear hx hy
      go_wp2
      refine wp_region_later_lit (by kernel_rfl) (by kernel_rfl) ?_; try simp only [List.append_eq, List.cons_append, List.nil_append]
      repeat (go_big_quiet_step (((go_at_call 22; first | (with_reducible exact Calls.later_drew (smTexts_any _ _ _ _ _ _ _ _ _ _ _ _ _ (r1.later hhr _) (r3.later hhr' _))) | (with_reducible exact Calls.later_drew (smTexts_any _ _ _ _ _ _ _ _ _ _ _ _ _ (r2.later hhr _) (r4.later hhr' _)))))))
      (refine wpQuiet_nil ?_; intro _ hw'; obtain ⟨⟨w9, hb9⟩, hw''⟩ := hw'; subst hw''; try dsimp only)
      go_wp2
      go_roundw
      case rel => exact ⟨k + 1, by omega, by go_num, hb.trans (hb9.mono hb.size)⟩
      case measure => simp [intOf]; omega
    · go_wp2
      go_ret
      exact ⟨rfl, hb⟩
end Go.Proofs.Ythjjocimpkjldaa
