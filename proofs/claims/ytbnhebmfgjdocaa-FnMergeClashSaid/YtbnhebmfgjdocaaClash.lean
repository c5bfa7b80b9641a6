/- Walks: MergeClash: the program's and the reference's. -/
import Derived.Test.YtbnhebmfgjdocaaMergeFn
namespace Go.Proofs.Ytbnhebmfgjdocaa
open Go.RowKit

def clashes (ps : List PPart) : Nat := (ps.filter fun p => p.clash).length
def mergeClash (xs ys zs : List Str) : Int := if mergeOk xs ys zs then (clashes (mergeOf xs ys zs) : Int) else -1
theorem clashes_next {ps : List PPart} {k : Nat} {p : PPart} (h : ps[k]? = some p) : clashes (ps.take (k + 1)) = clashes (ps.take k) + (if p.clash then 1 else 0) := by
  unfold clashes
  rw [List.take_add_one, h, List.filter_append, List.length_append]
  congr 1
  cases hc : p.clash <;> simp [hc]
theorem clashes_le (ps : List PPart) (k : Nat) : clashes (ps.take k) ≤ ps.length := by
  unfold clashes
  exact Nat.le_trans (List.length_filter_le _ _) (by simp; omega)
theorem mergeClash_no {xs ys zs : List Str} (h : mergeOk xs ys zs = false) : mergeClash xs ys zs = -1 := by unfold mergeClash; rw [h]; rfl
theorem mergeClash_yes {xs ys zs : List Str} (h : mergeOk xs ys zs = true) : mergeClash xs ys zs = clashes (mergeOf xs ys zs) := by unfold mergeClash; rw [h]; rfl

set_option maxRecDepth 100000 in
set_option maxHeartbeats 800000 in
theorem impl_MergeClash_any (A1 A2 A3 : Option Addr) (n1 c1 n2 c2 n3 c3 : Nat) (xs ys zs : List Str) (w : World) (lo hi lo' hi' lo'' hi'' : Nat) (h1 : Rep w lo hi (encText xs) (.slice A1 n1 c1)) (h2 : Rep w lo' hi' (encText ys) (.slice A2 n2 c2)) (h3 : Rep w lo'' hi'' (encText zs) (.slice A3 n3 c3))
    (hh1 : hi ≤ w.heap.size) (hh2 : hi' ≤ w.heap.size) (hh3 : hi'' ≤ w.heap.size) :
    Calls Try.prog 15 #[.slice A1 n1 c1, .slice A2 n2 c2, .slice A3 n3 c3] w fun e w' => e = .returned (.int .i64 (mergeClash xs ys zs)) ∧ Below w.heap.size w w' := by
  have ca := impl_areTexts_any _ _ _ _ _ _ _ _ _ xs ys zs w _ _ _ _ _ _ h1 h2 h3
  cases t : mergeOk xs ys zs
  · rw [t] at ca
    have Hn := Lib.hid (mergeClash_no t)
    clear t
    go_enter Try.func15, Try.ntmps15
    go_wp2_with fail
    refine ca.mono ?_; rintro e w' ⟨rfl, rfl⟩
    go_wp2
    go_ret
    exact ⟨by rw [Hn.out]; rfl, Below.refl _ _⟩
  · rw [t] at ca
    obtain ⟨l1, l2, l3⟩ := mergeOk_len t
    have Hn := Lib.hid (mergeClash_yes t)
    have hfew := (mergeOf_few l1 l2 l3).1
    clear t
    go_enter Try.func15, Try.ntmps15
    go_wp2_with fail
    refine ca.mono ?_; rintro e w' ⟨rfl, rfl⟩
    go_wp2_with fail
    refine (impl_mergeOf_any _ _ _ _ _ _ _ _ _ xs ys zs w (h1.mono (Nat.zero_le _) hh1) (h2.mono (Nat.zero_le _) hh2) (h3.mono (Nat.zero_le _) hh3) l1 l2 l3).mono ?_
    rintro e w1 ⟨A, n, c, rfl, hb1, hf1⟩
    obtain ⟨ps, hps⟩ : ∃ ps, ps = mergeOf xs ys zs := ⟨_, rfl⟩
    rw [← hps] at hf1 Hn hfew
    have hR := hf1.rep
    have hnp := Parts.n hR
    obtain ⟨hc, hm⟩ := Parts.cap hR
    subst hnp
    have hs1 := hb1.size
    clear hps hf1
    go_wp2
    go_loopw [7, 20] (fun t i wr => ∃ k : Nat, k ≤ ps.length ∧ i = .int .i64 k ∧ t = .int .i64 (clashes (ps.take k)) ∧ Below w1.heap.size w1 wr) (fun _ i _ => ps.length - (intOf i).toNat)
    case atStart => exact ⟨0, Nat.zero_le _, rfl, rfl, Below.refl _ _⟩
    case round =>
      obtain ⟨k, hk, rfl, rfl, hb⟩ := hrel
      have hsb := hb.size
      by_cases hkn : k < ps.length
      · have hkn' : (k : Int) < (ps.length : Int) := by omega
        obtain ⟨b1, o1, p, rfl, _, _, hp, B1, m1, e1, B2, m2, e2, B3, m3, e3, B4, m4, e4, d0, d1, r1, d2, r2, d3, r3, d4, r4⟩ := Parts.at (hR.keep hb (Nat.le_refl _)) hkn
        have hnx := clashes_next hp
        have hle := clashes_le ps k
        have hbr := hb.alloc hsb
        clear hp
        cases hcl : p.clash
        all_goals
          rw [hcl] at d0 hnx
          have Hnx := Lib.hid hnx
          clear hnx
          go_wp2
          go_roundw
          case rel => exact ⟨k + 1, by omega, by go_num, by rw [Hnx.out]; first | rfl | go_num, by (repeat' (first | with_reducible exact Below.refl _ _ | with_reducible assumption | (with_reducible refine Below.setCell ?_ ?_ _) | (with_reducible refine Below.alloc ?_ ?_ _) | (with_reducible refine below_drewN ?_ _) | (with_reducible refine Below.drew ?_) | omega | (simp; done) | (simp; omega)))⟩
          case measure => simp [intOf]; omega
      · obtain rfl : k = ps.length := by omega
        rw [List.take_length]
        go_wp2
        go_ret
        exact ⟨by rw [Hn.out]; rfl, hb1.trans (hb.mono hs1)⟩

set_option maxRecDepth 100000 in
set_option maxHeartbeats 800000 in
theorem spec_MergeClash_any (A1 A2 A3 : Option Addr) (n1 c1 n2 c2 n3 c3 : Nat) (xs ys zs : List Str) (w : World) (lo hi lo' hi' lo'' hi'' : Nat) (h1 : Rep w lo hi (encText xs) (.slice A1 n1 c1)) (h2 : Rep w lo' hi' (encText ys) (.slice A2 n2 c2)) (h3 : Rep w lo'' hi'' (encText zs) (.slice A3 n3 c3))
    (hh1 : hi ≤ w.heap.size) (hh2 : hi' ≤ w.heap.size) (hh3 : hi'' ≤ w.heap.size) (hs1 : ∀ s ∈ xs, s.length ≤ 9223372036854775807) (hs2 : ∀ s ∈ ys, s.length ≤ 9223372036854775807) (hs3 : ∀ s ∈ zs, s.length ≤ 9223372036854775807) :
    Calls Try.prog 13 #[.slice A1 n1 c1, .slice A2 n2 c2, .slice A3 n3 c3] w fun e w' => e = .returned (.int .i64 (mergeClash xs ys zs)) ∧ Below w.heap.size w w' := by
  have q1 := spec_l1Ok_any _ _ _ xs w _ _ h1 hs1
  have q2 := spec_l1Ok_any _ _ _ ys w _ _ h2 hs2
  have q3 := spec_l1Ok_any _ _ _ zs w _ _ h3 hs3
  cases t1 : textOk xs
  · rw [t1] at q1
    have Hn := Lib.hid (mergeClash_no (xs := xs) (ys := ys) (zs := zs) (by unfold mergeOk; rw [t1]; rfl))
    clear t1
    go_enter Try.func13, Try.ntmps13
    go_wp2_with fail
    refine q1.mono ?_; rintro e w' ⟨rfl, rfl⟩
    go_wp2
    go_ret
    exact ⟨by rw [Hn.out]; rfl, Below.refl _ _⟩
  rw [t1] at q1
  cases t2 : textOk ys
  · rw [t2] at q2
    have Hn := Lib.hid (mergeClash_no (xs := xs) (ys := ys) (zs := zs) (by unfold mergeOk; rw [t1, t2]; rfl))
    clear t1 t2
    go_enter Try.func13, Try.ntmps13
    go_wp2_with fail
    refine q1.mono ?_; rintro e w' ⟨rfl, rfl⟩
    go_wp2_with fail
    refine q2.mono ?_; rintro e w' ⟨rfl, rfl⟩
    go_wp2
    go_ret
    exact ⟨by rw [Hn.out]; rfl, Below.refl _ _⟩
  rw [t2] at q2
  cases t3 : textOk zs
  · rw [t3] at q3
    have Hn := Lib.hid (mergeClash_no (xs := xs) (ys := ys) (zs := zs) (by unfold mergeOk; rw [t1, t2, t3]; rfl))
    clear t1 t2 t3
    go_enter Try.func13, Try.ntmps13
    go_wp2_with fail
    refine q1.mono ?_; rintro e w' ⟨rfl, rfl⟩
    go_wp2_with fail
    refine q2.mono ?_; rintro e w' ⟨rfl, rfl⟩
    go_wp2_with fail
    refine q3.mono ?_; rintro e w' ⟨rfl, rfl⟩
    go_wp2
    go_ret
    exact ⟨by rw [Hn.out]; rfl, Below.refl _ _⟩
  rw [t3] at q3
  have Hn := Lib.hid (mergeClash_yes (xs := xs) (ys := ys) (zs := zs) (by unfold mergeOk; rw [t1, t2, t3]; rfl))
  have l1 := textOk_len t1
  have l2 := textOk_len t2
  have l3 := textOk_len t3
  have hfew := (mergeOf_few l1 l2 l3).1
  clear t1 t2 t3
  go_enter Try.func13, Try.ntmps13
  go_wp2_with fail
  refine q1.mono ?_; rintro e w' ⟨rfl, rfl⟩
  go_wp2_with fail
  refine q2.mono ?_; rintro e w' ⟨rfl, rfl⟩
  go_wp2_with fail
  refine q3.mono ?_; rintro e w' ⟨rfl, rfl⟩
  go_wp2_with fail
  refine (spec_l3Of_any _ _ _ _ _ _ _ _ _ xs ys zs w (h1.mono (Nat.zero_le _) hh1) (h2.mono (Nat.zero_le _) hh2) (h3.mono (Nat.zero_le _) hh3) l1 l2 l3).mono ?_
  rintro e w1 ⟨A, n, c, rfl, hb1, hf1⟩
  obtain ⟨ps, hps⟩ : ∃ ps, ps = mergeOf xs ys zs := ⟨_, rfl⟩
  rw [← hps] at hf1 Hn hfew
  have hR := hf1.rep
  have hnp := Parts.n hR
  obtain ⟨hc, hm⟩ := Parts.cap hR
  subst hnp
  have hs1 := hb1.size
  clear hps hf1
  go_wp2
  go_loopw [7, 9] (fun t i wr => ∃ k : Nat, k ≤ ps.length ∧ i = .int .i64 k ∧ t = .int .i64 (clashes (ps.take k)) ∧ wr = w1) (fun _ i _ => ps.length - (intOf i).toNat)
  case atStart => exact ⟨0, Nat.zero_le _, rfl, rfl, rfl⟩
  case round =>
    obtain ⟨k, hk, rfl, rfl, rfl⟩ := hrel
    by_cases hkn : k < ps.length
    · have hkn' : (k : Int) < (ps.length : Int) := by omega
      obtain ⟨b1, o1, p, rfl, _, _, hp, B1, m1, e1, B2, m2, e2, B3, m3, e3, B4, m4, e4, d0, d1, r1, d2, r2, d3, r3, d4, r4⟩ := Parts.at hR hkn
      have hnx := clashes_next hp
      have hle := clashes_le ps k
      clear hp
      cases hcl : p.clash
      all_goals
        rw [hcl] at d0 hnx
        have Hnx := Lib.hid hnx
        clear hnx
        go_wp2
        go_roundw
        case rel => exact ⟨k + 1, by omega, by go_num, by rw [Hnx.out]; first | rfl | go_num, trivial⟩
        case measure => simp [intOf]; omega
    · obtain rfl : k = ps.length := by omega
      rw [List.take_length]
      go_wp2
      go_ret
      exact ⟨by rw [Hn.out]; rfl, hb1⟩
end Go.Proofs.Ytbnhebmfgjdocaa
