/- Walks: are, l8Has, AncIs. -/
import Derived.Test.YtifeflneodmmlaaDoorAnc2
import Derived.Test.YtifeflneodmmlaaDoorRepoAt
namespace Go.Proofs.YtifeflneodmmlaaDoor
open Go.RowKit

def areIn (n : Nat) (ps : List Int) : Bool := ps.all fun p => inRange p 0 ((n : Int) - 1)
def ancIs (r : PRepo) (a b : Int) : Bool := repoOk r && (areIn r.commits.length [a, b] && (ancs r.commits b.toNat).getD a.toNat false)
theorem inRange_nat {a : Int} {n : Nat} (h : inRange a 0 ((n : Int) - 1) = true) : ∃ k : Nat, a = k ∧ k < n := by
  simp [inRange] at h
  exact ⟨a.toNat, by omega, by omega⟩

set_option maxRecDepth 100000 in
set_option maxHeartbeats 1600000 in
theorem impl_are_any (b : Nat) (ps : List Int) (r : PRepo) (A0 A1 : Option Addr) (n0 c0 n1 c1 : Nat) (w : World) (lo hi : Nat) (h0 : Rep w lo hi (encCommits r.commits) (.slice A0 n0 c0)) (h1 : Rep w lo hi (encHeads r.heads) (.slice A1 n1 c1)) (hh : hi ≤ w.heap.size) (hr : okRepoS r) (hn : ps.length ≤ 100) (hb : b < w.heap.size) (hp : ∀ j x, ps[j]? = some x → w.cell? ⟨b, j, none⟩ = some (.int .i64 x)) :
    Calls Tryd.prog 20 #[.agg #[.slice A0 n0 c0, .slice A1 n1 c1], .slice (some ⟨b, 0, none⟩) ps.length ps.length] w fun e w' => e = .returned (.bool (repoOk r && areIn r.commits.length ps)) ∧ Below w.heap.size w w' := by
  have hc := fun w (h0 : Rep w lo hi (encCommits r.commits) (.slice A0 n0 c0)) (h1 : Rep w lo hi (encHeads r.heads) (.slice A1 n1 c1)) hh => impl_RepoOk_any r A0 A1 n0 c0 n1 c1 w lo hi h0 h1 hh hr
  have hbx := fun o => (Below.refl w.heap.size w).alloc (Nat.le_refl _) o
  have Hl0 := Lib.hid (Commits.n h0)
  have h16 : n0 ≤ 1048576 := by rw [Commits.n h0]; exact hr.1
  have Hp := Lib.hid hp
  clear hp
  cases ho : repoOk r
  all_goals
    rw [ho] at hc
    go_enter Tryd.func20, Tryd.ntmps20
    go_wp2_with fail
    refine Calls.mono (hc _ (h0.keep (hbx _) hh) (h1.keep (hbx _) hh) (by simp; omega)) ?_
    rintro e w1 ⟨rfl, hb1⟩
    have q0 := box_two (a := w.heap.size) (j := 0) (v := .slice A0 n0 c0) hb1 (by simp [go_sem]) (Nat.le_refl _)
    have q1 := box_two (a := w.heap.size) (j := 1) (v := .slice A1 n1 c1) hb1 (by simp [go_sem]) (Nat.le_refl _)
    have hbw : Below w.heap.size w w1 := (hbx _).trans (hb1.mono (by simp))
    have hsz := hbw.size
    have hs1 : w.heap.size < w1.heap.size := by have := hb1.size; simp at this; omega
    clear hb1
  · go_wp2
    go_ret
    exact ⟨by simp, hbw⟩
  · go_wp2
    go_loopw [12] (fun i wr => ∃ k : Nat, k ≤ ps.length ∧ i = .int .i64 k ∧ Hid (areIn n0 (ps.take k) = true) ∧ Below w1.heap.size w1 wr) (fun i _ => ps.length - (intOf i).toNat)
    case atStart => exact ⟨0, Nat.zero_le _, rfl, Lib.hid (by simp [areIn]), Below.refl _ _⟩
    case round =>
      obtain ⟨k, hk, rfl, ht, hbk⟩ := hrel
      have hszk := hbk.size
      have hbr : Below w.heap.size w wr := hbw.trans (hbk.mono hsz)
      by_cases hkn : k < ps.length
      · have hkn' : (k : Int) < (ps.length : Int) := by omega
        obtain ⟨x, hx⟩ : ∃ x, ps[k]? = some x := ⟨ps[k]'(by omega), List.getElem?_eq_getElem (by omega)⟩
        have d0 : wr.cell? ⟨b, k, none⟩ = some (.int .i64 x) := (hbr.cell (by exact hb)).trans (Hp.out k x hx)
        have q0r : wr.cell? ⟨w.heap.size, 0, none⟩ = some (.slice A0 n0 c0) := (hbk.cell (by exact hs1)).trans q0
        have q1r : wr.cell? ⟨w.heap.size, 1, none⟩ = some (.slice A1 n1 c1) := (hbk.cell (by exact hs1)).trans q1
        have ce := impl_exists_any A0 A1 n0 c0 n1 c1 x wr (by omega)
        have hstep : ∀ v, inRange x 0 ((n0 : Int) - 1) = v → (v = true → areIn n0 (ps.take (k + 1)) = true) ∧ (v = false → areIn n0 ps = false) := fun v hv => ⟨fun h => all_take_succ hx ht.out (by rw [hv]; exact h), fun h => all_false hx (by rw [hv]; exact h)⟩
        cases t : inRange x 0 ((n0 : Int) - 1)
        all_goals
          have H := Lib.hid (hstep _ t)
          rw [t] at ce
          clear hstep t hx
          go_wp2_with fail
          refine Calls.mono ce ?_
          rintro e w2 ⟨rfl, hb2⟩
        · go_wp2
          go_ret
          exact ⟨by rw [← Hl0.out, H.out.2 trivial]; simp, hbr.trans (hb2.mono (by omega))⟩
        · go_wp2
          go_roundw
          case rel => exact ⟨k + 1, by omega, by go_num, Lib.hid (H.out.1 trivial), hbk.trans (hb2.mono hszk)⟩
          case measure => first | (simp [intOf]; done) | (simp [intOf]; omega)
      · obtain rfl : k = ps.length := by omega
        have hv : areIn n0 ps = true := by have := ht.out; rwa [List.take_length] at this
        have Hv := Lib.hid hv
        clear hv
        go_wp2
        go_ret
        exact ⟨by rw [← Hl0.out, Hv.out]; simp, hbr⟩

def hasI (xs : List Int) (x : Int) : Bool := xs.any fun y => y == x
set_option maxRecDepth 100000 in
theorem spec_l8Has_any (A : Option Addr) (n c : Nat) (xs : List Int) (x : Int) (w : World) (lo hi : Nat) (h : Rep w lo hi (encInts xs) (.slice A n c)) (_hh : hi ≤ w.heap.size) (_hm8 : xs.length ≤ 1048576) :
    Calls Tryd.prog 31 #[.slice A n c, .int .i64 x] w fun e w' => e = .returned (.bool (hasI xs x)) ∧ w = w' := by
  have hl := Ints.n h
  obtain ⟨hc, hm⟩ := Ints.cap h
  subst hl
  go_enter Tryd.func31, Tryd.ntmps31
  go_wp2
  go_loopw [5] (fun i wr => ∃ k : Nat, k ≤ xs.length ∧ i = .int .i64 k ∧ Hid ((xs.take k).all (fun y => !(y == x)) = true) ∧ w = wr) (fun i _ => xs.length - (intOf i).toNat)
  case atStart => exact ⟨0, Nat.zero_le _, rfl, Lib.hid (by simp), rfl⟩
  case round =>
    obtain ⟨k, hk, rfl, ht, rfl⟩ := hrel
    by_cases hkn : k < xs.length
    · have hkn' : (k : Int) < (xs.length : Int) := by omega
      obtain ⟨b1, o1, y, rfl, _, _, hy, d0⟩ := Ints.at h hkn
      by_cases he : y = x
      · have hv : hasI xs x = true := List.any_eq_true.2 ⟨y, List.mem_of_getElem? hy, by simp [he]⟩
        have Hv := Lib.hid hv
        have hbe : (y == x) = true := by simp [he]
        clear hv hy
        go_wp2
        go_ret
        exact ⟨ret_bool Hv.out.symm, rfl⟩
      · have hv := all_take_succ hy ht.out (by simp [he])
        have Hv := Lib.hid hv
        have hbe : (y == x) = false := by simp [he]
        clear hv hy
        go_wp2
        go_roundw
        case rel => exact ⟨k + 1, by omega, by go_num, Hv, trivial⟩
        case measure => first | (simp [intOf]; done) | (simp [intOf]; omega)
    · obtain rfl : k = xs.length := by omega
      have hv : hasI xs x = false := by
        have := ht.out
        rw [List.take_length] at this
        unfold hasI
        rw [List.any_eq_false]
        intro y hy
        simpa using List.all_eq_true.1 this y hy
      have Hv := Lib.hid hv
      clear hv
      go_wp2
      go_ret
      exact ⟨ret_bool Hv.out.symm, rfl⟩
theorem hasI_idx (m : List Bool) (k : Nat) : hasI (idxOf m) (k : Int) = m.getD k false := by
  unfold hasI idxOf idxTo
  cases h : m.getD k false
  · rw [List.any_eq_false]
    intro y hy
    obtain ⟨j, hj, rfl⟩ := List.mem_map.1 hy
    have hj2 := (List.mem_filter.1 hj).2
    intro he
    have : j = k := by have : (j : Int) = (k : Int) := by simpa using he
                       omega
    subst this
    rw [h] at hj2; exact absurd hj2 (by simp)
  · rw [List.any_eq_true]
    have hk : k < m.length := by
      rcases Nat.lt_or_ge k m.length with hk | hk
      · exact hk
      · simp [List.getD, List.getElem?_eq_none hk] at h
    exact ⟨(k : Int), List.mem_map.2 ⟨k, List.mem_filter.2 ⟨List.mem_range.2 hk, h⟩, rfl⟩, by simp⟩
end Go.Proofs.YtifeflneodmmlaaDoor
