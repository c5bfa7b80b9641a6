/- Walks: where a branch is: RepoAt, the program's and the reference's. -/
import Derived.Test.YtocncjohpikfcaaDoorRepo1
import Derived.Test.YtocncjohpikfcaaDoorRepo2
namespace Go.Proofs.YtocncjohpikfcaaDoor
open Go.RowKit

def headOf : List PHead → Str → Int
  | [], _ => -1
  | h :: t, s => if h.name = s then h.at_ else headOf t s
theorem headOf_skip {hs : List PHead} {s : Str} {k : Nat} {x : PHead} (hx : hs[k]? = some x) (hne : x.name ≠ s) : headOf (hs.drop k) s = headOf (hs.drop (k + 1)) s := by
  rw [List.drop_eq_getElem_cons (List.getElem?_eq_some_iff.1 hx).1, headOf]
  rw [List.getElem?_eq_getElem (List.getElem?_eq_some_iff.1 hx).1] at hx
  rw [Option.some.inj hx, if_neg hne]
theorem headOf_here {hs : List PHead} {s : Str} {k : Nat} {x : PHead} (hx : hs[k]? = some x) (he : x.name = s) : headOf (hs.drop k) s = x.at_ := by
  rw [List.drop_eq_getElem_cons (List.getElem?_eq_some_iff.1 hx).1, headOf]
  rw [List.getElem?_eq_getElem (List.getElem?_eq_some_iff.1 hx).1] at hx
  rw [Option.some.inj hx, if_pos he]
def repoAt (r : PRepo) (s : Str) : Int := if repoOk r then headOf r.heads s else -1

set_option maxRecDepth 100000 in
set_option maxHeartbeats 800000 in
theorem impl_at_any (A0 A1 : Option Addr) (n0 c0 n1 c1 : Nat) (hs : List PHead) (s : Str) (w : World) (lo hi : Nat) (h1 : Rep w lo hi (encHeads hs) (.slice A1 n1 c1)) (hh : hi ≤ w.heap.size) :
    Calls Tryd.prog 52 #[.agg #[.slice A0 n0 c0, .slice A1 n1 c1], .string ⟨s.toArray⟩] w fun e w' => e = .returned (.int .i64 (headOf hs s)) ∧ Below w.heap.size w w' := by
  have hl := Heads.n h1
  obtain ⟨hc, hm⟩ := Heads.cap h1
  subst hl
  go_enter Tryd.func52, Tryd.ntmps52
  go_wp2
  refine name_world ?_
  intro W0 hW0
  have hb0 : Below w.heap.size w W0 := by rw [hW0]; exact (Below.refl _ _).alloc (Nat.le_refl _) _
  have hh0 : hi ≤ W0.heap.size := Nat.le_trans hh hb0.size
  replace h1 := h1.keep hb0 hh
  clear hW0
  go_loopw [10] (fun i wr => ∃ k : Nat, k ≤ hs.length ∧ i = .int .i64 k ∧ Hid (headOf hs s = headOf (hs.drop k) s) ∧ Below W0.heap.size W0 wr) (fun i _ => hs.length - (intOf i).toNat)
  case atStart => exact ⟨0, Nat.zero_le _, rfl, Lib.hid (by simp), Below.refl _ _⟩
  case round =>
    obtain ⟨k, hk, rfl, ht, hb⟩ := hrel
    have hsz := hb.size
    have hbw : Below w.heap.size w wr := hb0.trans (hb.mono hb0.size)
    by_cases hkn : k < hs.length
    · have hkn' : (k : Int) < (hs.length : Int) := by omega
      obtain ⟨b1, o1, x, rfl, _, hbhi, hx, d0, d1⟩ := Heads.at (h1.keep hb hh0) hkn
      have Hx := Lib.hid hx
      clear hx
      by_cases he : x.name = s
      · have hbe : (x.name == s) = true := by simp [he]
        have hv := ht.out.trans (headOf_here Hx.out he)
        have Hv := Lib.hid hv
        clear he hv
        go_wp2
        go_ret
        exact ⟨ret_int Hv.out.symm, hbw.alloc (Nat.le_trans hb0.size hsz) _⟩
      · have hbe : (x.name == s) = false := by simp [he]
        have hst := ht.out.trans (headOf_skip Hx.out he)
        have Hst := Lib.hid hst
        clear hst he
        go_wp2
        go_roundw
        case rel => exact ⟨k + 1, by omega, by go_num, Hst, hb.alloc hsz _⟩
        case measure => simp [intOf]; omega
    · obtain rfl : k = hs.length := by omega
      have hv : headOf hs s = -1 := by rw [ht.out, List.drop_length]; rfl
      have Hv := Lib.hid hv
      clear hv
      go_wp2
      go_ret
      exact ⟨ret_int Hv.out.symm, hbw⟩

set_option maxRecDepth 100000 in
set_option maxHeartbeats 800000 in
theorem spec_l7At_any (A0 A1 : Option Addr) (n0 c0 n1 c1 : Nat) (hs : List PHead) (s : Str) (w : World) (lo hi : Nat) (h1 : Rep w lo hi (encHeads hs) (.slice A1 n1 c1)) (hh : hi ≤ w.heap.size) :
    Calls Tryd.prog 51 #[.agg #[.slice A0 n0 c0, .slice A1 n1 c1], .string ⟨s.toArray⟩] w fun e w' => e = .returned (.int .i64 (headOf hs s)) ∧ Below w.heap.size w w' := by
  have hl := Heads.n h1
  obtain ⟨hc, hm⟩ := Heads.cap h1
  subst hl
  go_enter Tryd.func51, Tryd.ntmps51
  go_wp2
  refine name_world ?_
  intro W0 hW0
  have hb0 : Below w.heap.size w W0 := by rw [hW0]; exact (Below.refl _ _).alloc (Nat.le_refl _) _
  have q1 : W0.cell? ⟨w.heap.size, 1, none⟩ = some (.slice A1 hs.length c1) := by rw [hW0]; simp [go_sem]
  replace h1 := h1.keep hb0 hh
  clear hW0
  go_loop [5] (fun i => ∃ k : Nat, k ≤ hs.length ∧ i = .int .i64 k ∧ Hid (headOf hs s = headOf (hs.drop k) s)) (fun i => hs.length - (intOf i).toNat)
  case atStart => exact ⟨0, Nat.zero_le _, rfl, Lib.hid (by simp)⟩
  case round =>
    obtain ⟨k, hk, rfl, ht⟩ := hrel
    by_cases hkn : k < hs.length
    · have hkn' : (k : Int) < (hs.length : Int) := by omega
      obtain ⟨b1, o1, x, rfl, _, hbhi, hx, d0, d1⟩ := Heads.at h1 hkn
      have Hx := Lib.hid hx
      clear hx
      by_cases he : x.name = s
      · have hbe : (x.name == s) = true := by simp [he]
        have hv := ht.out.trans (headOf_here Hx.out he)
        have Hv := Lib.hid hv
        clear he hv
        go_wp2
        go_ret
        exact ⟨ret_int Hv.out.symm, hb0⟩
      · have hbe : (x.name == s) = false := by simp [he]
        have hst := ht.out.trans (headOf_skip Hx.out he)
        have Hst := Lib.hid hst
        clear hst he
        go_wp2
        go_round
        case rel => exact ⟨k + 1, by omega, by go_num, Hst⟩
        case measure => simp [intOf]; omega
    · obtain rfl : k = hs.length := by omega
      have hv : headOf hs s = -1 := by rw [ht.out, List.drop_length]; rfl
      have Hv := Lib.hid hv
      clear hv
      go_wp2
      go_ret
      exact ⟨ret_int Hv.out.symm, hb0⟩

/-- The two cells of a repository that is boxed, in a later world. -/
theorem box_two {w w' : World} {o : Obj} {a : Nat} {j : Nat} {v : Value} (hb : Below (w.alloc o).heap.size (w.alloc o) w') (h : (w.alloc o).cell? ⟨a, j, none⟩ = some v) (ha : a ≤ w.heap.size) : w'.cell? ⟨a, j, none⟩ = some v :=
  (hb.cell (p := ⟨a, j, none⟩) (by simp; omega)).trans h

set_option maxRecDepth 100000 in
set_option maxHeartbeats 800000 in
theorem impl_RepoAt_any (s : Str) (r : PRepo) (A0 A1 : Option Addr) (n0 c0 n1 c1 : Nat) (w : World) (lo hi : Nat) (h0 : Rep w lo hi (encCommits r.commits) (.slice A0 n0 c0)) (h1 : Rep w lo hi (encHeads r.heads) (.slice A1 n1 c1)) (hh : hi ≤ w.heap.size) (hr : okRepoS r) :
    Calls Tryd.prog 18 #[.agg #[.slice A0 n0 c0, .slice A1 n1 c1], .string ⟨s.toArray⟩] w fun e w' => e = .returned (.int .i64 (repoAt r s)) ∧ Below w.heap.size w w' := by
  have hc := fun w (h0 : Rep w lo hi (encCommits r.commits) (.slice A0 n0 c0)) (h1 : Rep w lo hi (encHeads r.heads) (.slice A1 n1 c1)) hh => impl_RepoOk_any r A0 A1 n0 c0 n1 c1 w lo hi h0 h1 hh hr
  have hbx := fun o => (Below.refl w.heap.size w).alloc (Nat.le_refl _) o
  cases ho : repoOk r
  all_goals
    rw [ho] at hc
    unfold repoAt
    rw [ho]
    go_enter Tryd.func18, Tryd.ntmps18
    go_wp2_with fail
    refine Calls.mono (hc _ (h0.keep (hbx _) hh) (h1.keep (hbx _) hh) (by simp; omega)) ?_
    rintro e w1 ⟨rfl, hb1⟩
    have q0 := box_two (a := w.heap.size) (j := 0) (v := .slice A0 n0 c0) hb1 (by simp [go_sem]) (Nat.le_refl _)
    have q1 := box_two (a := w.heap.size) (j := 1) (v := .slice A1 n1 c1) hb1 (by simp [go_sem]) (Nat.le_refl _)
    have hbw : Below w.heap.size w w1 := (hbx _).trans (hb1.mono (by simp))
    have hsz := hbw.size
    clear hb1
  · go_wp2
    go_ret
    exact ⟨by simp, hbw⟩
  · go_wp2_with fail
    refine Calls.mono (impl_at_any A0 A1 n0 c0 n1 c1 r.heads s w1 lo hi (h1.keep hbw hh) (by omega)) ?_
    rintro e w2 ⟨rfl, hb2⟩
    go_wp2
    go_ret
    exact ⟨by simp, hbw.trans (hb2.mono hsz)⟩

set_option maxRecDepth 100000 in
set_option maxHeartbeats 800000 in
theorem spec_RepoAt_any (s : Str) (r : PRepo) (A0 A1 : Option Addr) (n0 c0 n1 c1 : Nat) (w : World) (lo hi : Nat) (h0 : Rep w lo hi (encCommits r.commits) (.slice A0 n0 c0)) (h1 : Rep w lo hi (encHeads r.heads) (.slice A1 n1 c1)) (hh : hi ≤ w.heap.size) (hr : okRepoS r) :
    Calls Tryd.prog 17 #[.agg #[.slice A0 n0 c0, .slice A1 n1 c1], .string ⟨s.toArray⟩] w fun e w' => e = .returned (.int .i64 (repoAt r s)) ∧ Below w.heap.size w w' := by
  have hc := fun w (h0 : Rep w lo hi (encCommits r.commits) (.slice A0 n0 c0)) (h1 : Rep w lo hi (encHeads r.heads) (.slice A1 n1 c1)) hh => spec_l7Ok_any r A0 A1 n0 c0 n1 c1 w lo hi h0 h1 hh hr
  have hbx := fun o => (Below.refl w.heap.size w).alloc (Nat.le_refl _) o
  cases ho : repoOk r
  all_goals
    rw [ho] at hc
    unfold repoAt
    rw [ho]
    go_enter Tryd.func17, Tryd.ntmps17
    go_wp2_with fail
    refine Calls.mono (hc _ (h0.keep (hbx _) hh) (h1.keep (hbx _) hh) (by simp; omega)) ?_
    rintro e w1 ⟨rfl, hb1⟩
    have q0 := box_two (a := w.heap.size) (j := 0) (v := .slice A0 n0 c0) hb1 (by simp [go_sem]) (Nat.le_refl _)
    have q1 := box_two (a := w.heap.size) (j := 1) (v := .slice A1 n1 c1) hb1 (by simp [go_sem]) (Nat.le_refl _)
    have hbw : Below w.heap.size w w1 := (hbx _).trans (hb1.mono (by simp))
    have hsz := hbw.size
    clear hb1
  · go_wp2
    go_ret
    exact ⟨by simp, hbw⟩
  · go_wp2_with fail
    refine Calls.mono (spec_l7At_any A0 A1 n0 c0 n1 c1 r.heads s w1 lo hi (h1.keep hbw hh) (by omega)) ?_
    rintro e w2 ⟨rfl, hb2⟩
    go_wp2
    go_ret
    exact ⟨by simp, hbw.trans (hb2.mono hsz)⟩
end Go.Proofs.YtocncjohpikfcaaDoor
