/- Walks: the laws' own comparison of parts, where they are the same. -/
import Derived.Test.YtbnhebmfgjdocaaSmTexts
namespace Go.Proofs.Ytbnhebmfgjdocaa
open Go.RowKit

set_option maxRecDepth 100000 in
set_option maxHeartbeats 1600000 in
theorem smParts_same (A1 A2 : Option Addr) (n1 c1 n2 c2 : Nat) (xs : List PPart) (w : World) (lo hi lo' hi' : Nat) (h1 : Rep w lo hi (encParts xs) (.slice A1 n1 c1)) (h2 : Rep w lo' hi' (encParts xs) (.slice A2 n2 c2)) (hh : hi ≤ w.heap.size) (hh' : hi' ≤ w.heap.size) :
    Calls Try.prog 25 #[.slice A1 n1 c1, .slice A2 n2 c2] w fun e w' => e = .returned (.bool true) ∧ Below w.heap.size w w' := by
  have hl1 := Parts.n h1
  have hl2 := Parts.n h2
  obtain ⟨hc1, hm1⟩ := Parts.cap h1
  subst hl1 hl2
  go_enter Try.func25, Try.ntmps25
  go_wp2
  go_loopw [5] (fun i wr => ∃ k : Nat, k ≤ xs.length ∧ i = .int .i64 k ∧ Below w.heap.size w wr) (fun i _ => xs.length - (intOf i).toNat)
  case atStart => exact ⟨0, Nat.zero_le _, rfl, Below.refl _ _⟩
  case round =>
    obtain ⟨k, hk, rfl, hb⟩ := hrel
    by_cases hlt : k < xs.length
    · have hs := hb.size
      obtain ⟨b1, o1, x, rfl, _, _, hx, Aa1, na1, ca1, Aa2, na2, ca2, Aa3, na3, ca3, Aa4, na4, ca4, d0, d1, r1, d2, r2, d3, r3, d4, r4⟩ := Parts.at (h1.keep hb hh) hlt
      obtain ⟨b2, o2, y, rfl, _, _, hy, Ab1, nb1, cb1, Ab2, nb2, cb2, Ab3, nb3, cb3, Ab4, nb4, cb4, f0, f1, s1, f2, s2, f3, s3, f4, s4⟩ := Parts.at (h2.keep hb hh') hlt
      rw [hx] at hy
      obtain rfl : x = y := by simpa using hy
      have hlt' : (k : Int) < (xs.length : Int) := by omega
      have q0 := Later.cell d0
      have q1 := Later.cell d1
      have q2 := Later.cell d2
      have q3 := Later.cell d3
      have q4 := Later.cell d4
      have p0 := Later.cell f0
      have p1 := Later.cell f1
      have p2 := Later.cell f2
      have p3 := Later.cell f3
      have p4 := Later.cell f4
      have hhr : hi ≤ wr.heap.size := by omega
      have hhr' : hi' ≤ wr.heap.size := by omega
      have hbb : (!(x.clash == x.clash)) = false := by simp
      clear hx hy
      go_wp2
      refine wp_region_later_lit (by kernel_rfl) (by kernel_rfl) ?_; try simp only [List.append_eq, List.cons_append, List.nil_append]
      repeat (go_big_quiet_step (((go_at_call 28; first | (with_reducible exact Calls.later_drew (smTexts_any _ _ _ _ _ _ _ _ _ _ _ _ _ (r1.later hhr _) (s1.later hhr' _))) | (with_reducible exact Calls.later_drew (smTexts_any _ _ _ _ _ _ _ _ _ _ _ _ _ (r2.later hhr _) (s2.later hhr' _))) | (with_reducible exact Calls.later_drew (smTexts_any _ _ _ _ _ _ _ _ _ _ _ _ _ (r3.later hhr _) (s3.later hhr' _))) | (with_reducible exact Calls.later_drew (smTexts_any _ _ _ _ _ _ _ _ _ _ _ _ _ (r4.later hhr _) (s4.later hhr' _)))))))
      (refine wpQuiet_nil ?_; intro _ hw'; obtain ⟨⟨w9, hb9⟩, hw''⟩ := hw'; subst hw''; try dsimp only)
      go_wp2
      go_roundw
      case rel => exact ⟨k + 1, by omega, by go_num, hb.trans (hb9.mono hb.size)⟩
      case measure => simp [intOf]; omega
    · go_wp2
      go_ret
      exact ⟨rfl, hb⟩
end Go.Proofs.Ytbnhebmfgjdocaa
