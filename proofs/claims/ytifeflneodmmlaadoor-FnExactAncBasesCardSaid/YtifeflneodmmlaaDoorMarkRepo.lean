/- Walk: the laws' markRepo. -/
import Derived.Test.YtifeflneodmmlaaDoorKCommit
import Derived.Test.YtifeflneodmmlaaDoorKHead
import Derived.Test.YtifeflneodmmlaaDoorCCommit
import Derived.Test.YtifeflneodmmlaaDoorCHead
import Derived.Test.YtifeflneodmmlaaDoorHRepo
namespace Go.Proofs.YtifeflneodmmlaaDoor
open Go.RowKit
def cntRepo (x : PRepo) : Nat := cntCommits x.commits + cntHeads x.heads
def markRepo (k : Int) (x : PRepo) : PRepo := ⟨markCommits k x.commits, markHeads (k + (cntCommits x.commits : Nat)) x.heads⟩
theorem cntRepo_le (x : PRepo) : cntRepo x ≤ 8 * szRepo x := by
  have h1 := cntCommits_le x.commits
  have h2 := cntHeads_le x.heads
  unfold cntRepo szRepo; omega
theorem only_box {F : List Nat} {w w' : World} {o : Obj} (hF : ∀ k ∈ F, k < w.heap.size) (h : Only F (w.alloc o) w') (j : Nat) (v : Value) (hc : (w.alloc o).cell? ⟨w.heap.size, j, none⟩ = some v) : w'.cell? ⟨w.heap.size, j, none⟩ = some v := by
  rw [World.cell?_of_block (h.block w.heap.size (by simp) (fun m => Nat.lt_irrefl _ (hF _ m)))]; exact hc

set_option maxHeartbeats 800000 in
theorem markRepo_any (x : PRepo) (A0 A1 : Option Addr) (n0 c0 n1 c1 : Nat) (k : Int) (w : World) (F : List Nat) (h : Owns w (cRepos x) [.slice A0 n0 c0, .slice A1 n1 c1] F) (hnd : F.Nodup) (h0 : 0 ≤ k) (h1 : k + cntRepo x ≤ 1099511627776) :
    Calls Tryd.prog 10 #[.agg #[.slice A0 n0 c0, .slice A1 n1 c1], .int .i64 k] w fun e w' => e = .returned (.int .i64 (k + cntRepo x)) ∧ Owns w' (cRepos (markRepo k x)) [.slice A0 n0 c0, .slice A1 n1 c1] F ∧ Only F w w' := by
  obtain ⟨u0, us0, F1, F2, e1, rfl, o1, u1, us1, F3, F4, e2, rfl, o2, e3, rfl⟩ := h
  simp only [List.cons.injEq] at e1
  obtain ⟨rfl, rfl⟩ := e1
  simp only [List.cons.injEq] at e2
  obtain ⟨rfl, rfl⟩ := e2
  clear e3
  rw [List.append_nil] at hnd ⊢
  have hn1 := (List.nodup_append.1 hnd).1
  have hn2 := (List.nodup_append.1 hnd).2.1
  have hd : ∀ q ∈ F3, q ∉ F1 := fun q hq h1 => (List.nodup_append.1 hnd).2.2 q h1 q hq rfl
  have l1 := Own.lt _ _ _ o1
  have l2 := Own.lt _ _ _ o2
  have hc1 := fun w' (o : Own w' (encCommits x.commits) (.slice A0 n0 c0) F1) => markCommitS_any A0 n0 c0 x.commits k w' F1 o hn1 h0 (by unfold cntRepo at h1; omega)
  have hc2 := fun w' (o : Own w' (encHeads x.heads) (.slice A1 n1 c1) F3) => markHeadS_any A1 n1 c1 x.heads (k + (cntCommits x.commits : Nat)) w' F3 o hn2 (by omega) (by unfold cntRepo at h1; omega)
  have hcr : k + (cntRepo x : Nat) = k + (cntCommits x.commits : Nat) + (cntHeads x.heads : Nat) := by unfold cntRepo; omega
  have Hcr := Lib.hid hcr
  clear hcr h1
  have hal : ∀ o, Only (F1 ++ F3) w (w.alloc o) := fun o => Only.of_below ((Below.refl _ _).alloc (Nat.le_refl _) o)
  have hbl : ∀ o q, q < w.heap.size → (w.alloc o).heap[q]? = w.heap[q]? := fun o q hq => ((Below.refl w.heap.size w).alloc (Nat.le_refl _) o).block q hq
  go_enter Tryd.func10, Tryd.ntmps10
  go_wp2_with fail
  refine Calls.mono (hc1 _ (Own.same _ _ _ o1 (fun q hq => hbl _ q (l1 q hq)))) ?_
  rintro e w1 ⟨rfl, p1, y1⟩
  have q0 := only_box l1 y1 0 (.slice A0 n0 c0) (by simp [go_sem])
  have q1 := only_box l1 y1 1 (.slice A1 n1 c1) (by simp [go_sem])
  have o2' := Own.same (w' := w1) _ _ _ o2 (fun q hq => (y1.block q (by have := l2 q hq; simp; omega) (hd q hq)).trans (hbl _ q (l2 q hq)))
  have on1 : Only (F1 ++ F3) w w1 := (hal _).trans (y1.mono (fun q hq => by simp [hq]))
  have p1l := Own.lt _ _ _ p1
  clear y1
  go_wp2_with fail
  refine Calls.mono (hc2 _ o2') ?_
  rintro e w2 ⟨rfl, p2, y2⟩
  have on2 : Only (F1 ++ F3) w w2 := on1.trans (y2.mono (fun q hq => by simp [hq]))
  have p1' := Own.same (w' := w2) _ _ _ p1 (fun q hq => y2.block q (p1l q hq) (fun hm => hd q hm hq))
  clear y2 on1
  go_wp2
  go_ret
  refine ⟨?_, ?_, on2⟩
  · rw [Hcr.out]; rfl
  · exact ⟨_, _, F1, F3, rfl, rfl, p1', _, _, F3, [], rfl, by simp, p2, rfl, rfl⟩
end Go.Proofs.YtifeflneodmmlaaDoor
