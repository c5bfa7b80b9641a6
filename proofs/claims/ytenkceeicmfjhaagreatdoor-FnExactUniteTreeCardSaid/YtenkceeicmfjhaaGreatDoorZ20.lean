/- Several of my texts in one: CFile, CCommit, CHead, MarkRepo. -/
import Derived.Test.YtenkceeicmfjhaaGreatDoorZ14
import Derived.Test.YtenkceeicmfjhaaGreatDoorHFile
import Derived.Test.YtenkceeicmfjhaaGreatDoorZ15
import Derived.Test.YtenkceeicmfjhaaGreatDoorHCommit
import Derived.Test.YtenkceeicmfjhaaGreatDoorHHead
import Derived.Test.YtenkceeicmfjhaaGreatDoorHRepo
/- How many cells a law's helper counts in a slice of File, against the law's own measure of size. Printed by wip/marks.py. -/
namespace Go.Proofs.YtenkceeicmfjhaaGreatDoor
theorem cntFile_le (x : PFile) : cntFile x ≤ 8 * (1 + szFile x) := by
  unfold cntFile szFile
  unfold total
  omega
theorem cntFiles_le : ∀ xs : List PFile, cntFiles xs ≤ 8 * szFiles xs
  | [] => by simp [cntFiles, szFiles]
  | x :: xs => by
    have h1 := cntFile_le x
    have h2 := cntFiles_le xs
    simp only [cntFiles, szFiles, List.map_cons, List.sum_cons, List.length_cons] at *
    omega
end Go.Proofs.YtenkceeicmfjhaaGreatDoor

/- How many cells a law's helper counts in a slice of Commit, against the law's own measure of size. Printed by wip/marks.py. -/
namespace Go.Proofs.YtenkceeicmfjhaaGreatDoor
theorem cntCommit_le (x : PCommit) : cntCommit x ≤ 8 * (1 + szCommit x) := by
  have h_tree := cntFiles_le x.tree
  unfold cntCommit szCommit
  omega
theorem cntCommits_le : ∀ xs : List PCommit, cntCommits xs ≤ 8 * szCommits xs
  | [] => by simp [cntCommits, szCommits]
  | x :: xs => by
    have h1 := cntCommit_le x
    have h2 := cntCommits_le xs
    simp only [cntCommits, szCommits, List.map_cons, List.sum_cons, List.length_cons] at *
    omega
end Go.Proofs.YtenkceeicmfjhaaGreatDoor

/- How many cells a law's helper counts in a slice of Head, against the law's own measure of size. Printed by wip/marks.py. -/
namespace Go.Proofs.YtenkceeicmfjhaaGreatDoor
theorem cntHead_le (x : PHead) : cntHead x ≤ 8 * (1 + szHead x) := by
  unfold cntHead szHead
  omega
theorem cntHeads_le : ∀ xs : List PHead, cntHeads xs ≤ 8 * szHeads xs
  | [] => by simp [cntHeads, szHeads]
  | x :: xs => by
    have h1 := cntHead_le x
    have h2 := cntHeads_le xs
    simp only [cntHeads, szHeads, List.map_cons, List.sum_cons, List.length_cons] at *
    omega
end Go.Proofs.YtenkceeicmfjhaaGreatDoor

/- Walk: the laws' markRepo. -/
namespace Go.Proofs.YtenkceeicmfjhaaGreatDoor
open Go.RowKit
def cntRepo (x : PRepo) : Nat := cntCommits x.commits + cntHeads x.heads
def markRepo (k : Int) (x : PRepo) : PRepo := ⟨markCommits k x.commits, markHeads (k + (cntCommits x.commits : Nat)) x.heads⟩
theorem cntRepo_le (x : PRepo) : cntRepo x ≤ 8 * szRepo x := by
  have h1 := cntCommits_le x.commits
  have h2 := cntHeads_le x.heads
  unfold cntRepo szRepo; omega
theorem only_box {F : List Nat} {w w' : World} {o : Obj} (hF : ∀ k ∈ F, k < w.heap.size) (h : Only F (w.alloc o) w') (j : Nat) (v : Value) (hc : (w.alloc o).cell? ⟨w.heap.size, j, none⟩ = some v) : w'.cell? ⟨w.heap.size, j, none⟩ = some v := by
  rw [World.cell?_of_block (h.block w.heap.size (by simp) (fun m => Nat.lt_irrefl _ (hF _ m)))]; exact hc

set_option maxHeartbeats 800000 in
theorem markRepo_any (x : PRepo) (A0 A1 : Option Addr) (n0 c0 n1 c1 : Nat) (k : Int) (w : World) (F : List Nat) (h : Owns w (cRepos x) [.slice A0 n0 c0, .slice A1 n1 c1] F) (hnd : F.Nodup) (h0 : 0 ≤ k) (h1 : k + cntRepo x ≤ 1099511627776) :
    Calls Tryz.prog 10 #[.agg #[.slice A0 n0 c0, .slice A1 n1 c1], .int .i64 k] w fun e w' => e = .returned (.int .i64 (k + cntRepo x)) ∧ Owns w' (cRepos (markRepo k x)) [.slice A0 n0 c0, .slice A1 n1 c1] F ∧ Only F w w' := by
  obtain ⟨u0, us0, F1, F2, e1, rfl, o1, u1, us1, F3, F4, e2, rfl, o2, e3, rfl⟩ := h
  simp only [List.cons.injEq] at e1
  obtain ⟨rfl, rfl⟩ := e1
  simp only [List.cons.injEq] at e2
  obtain ⟨rfl, rfl⟩ := e2
  clear e3
  rw [List.append_nil] at hnd ⊢
  have hn1 := (List.nodup_append.1 hnd).1
  have hn2 := (List.nodup_append.1 hnd).2.1
  have hd : ∀ q ∈ F3, q ∉ F1 := fun q hq h1 => (List.nodup_append.1 hnd).2.2 q h1 q hq rfl
  have l1 := Own.lt _ _ _ o1
  have l2 := Own.lt _ _ _ o2
  have hc1 := fun w' (o : Own w' (encCommits x.commits) (.slice A0 n0 c0) F1) => markCommitS_any A0 n0 c0 x.commits k w' F1 o hn1 h0 (by unfold cntRepo at h1; omega)
  have hc2 := fun w' (o : Own w' (encHeads x.heads) (.slice A1 n1 c1) F3) => markHeadS_any A1 n1 c1 x.heads (k + (cntCommits x.commits : Nat)) w' F3 o hn2 (by omega) (by unfold cntRepo at h1; omega)
  have hcr : k + (cntRepo x : Nat) = k + (cntCommits x.commits : Nat) + (cntHeads x.heads : Nat) := by unfold cntRepo; omega
  have Hcr := Lib.hid hcr
  clear hcr h1
  have hal : ∀ o, Only (F1 ++ F3) w (w.alloc o) := fun o => Only.of_below ((Below.refl _ _).alloc (Nat.le_refl _) o)
  have hbl : ∀ o q, q < w.heap.size → (w.alloc o).heap[q]? = w.heap[q]? := fun o q hq => ((Below.refl w.heap.size w).alloc (Nat.le_refl _) o).block q hq
  go_enter Tryz.func10, Tryz.ntmps10
  go_wp2_with fail
  refine Calls.mono (hc1 _ (Own.same _ _ _ o1 (fun q hq => hbl _ q (l1 q hq)))) ?_
  rintro e w1 ⟨rfl, p1, y1⟩
  have q0 := only_box l1 y1 0 (.slice A0 n0 c0) (by simp [go_sem])
  have q1 := only_box l1 y1 1 (.slice A1 n1 c1) (by simp [go_sem])
  have o2' := Own.same (w' := w1) _ _ _ o2 (fun q hq => (y1.block q (by have := l2 q hq; simp; omega) (hd q hq)).trans (hbl _ q (l2 q hq)))
  have on1 : Only (F1 ++ F3) w w1 := (hal _).trans (y1.mono (fun q hq => by simp [hq]))
  have p1l := Own.lt _ _ _ p1
  clear y1
  go_wp2_with fail
  refine Calls.mono (hc2 _ o2') ?_
  rintro e w2 ⟨rfl, p2, y2⟩
  have on2 : Only (F1 ++ F3) w w2 := on1.trans (y2.mono (fun q hq => by simp [hq]))
  have p1' := Own.same (w' := w2) _ _ _ p1 (fun q hq => y2.block q (p1l q hq) (fun hm => hd q hm hq))
  clear y2 on1
  go_wp2
  go_ret
  refine ⟨?_, ?_, on2⟩
  · rw [Hcr.out]; rfl
  · exact ⟨_, _, F1, F3, rfl, rfl, p1', _, _, F3, [], rfl, by simp, p2, rfl, rfl⟩
end Go.Proofs.YtenkceeicmfjhaaGreatDoor
