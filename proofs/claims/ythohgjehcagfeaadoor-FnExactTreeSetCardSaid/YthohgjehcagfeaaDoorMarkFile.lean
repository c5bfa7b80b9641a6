/- Walk: the laws' markFile (one file by value: its text alone can be marked). -/
import Derived.Test.YthohgjehcagfeaaDoorKFile
import Derived.Test.YthohgjehcagfeaaDoorCFile
import Derived.Test.YthohgjehcagfeaaDoorHFile
namespace Go.Proofs.YthohgjehcagfeaaDoor
open Go.RowKit
def cntFile1 (x : PFile) : Nat := x.text.length
def markFile1 (k : Int) (x : PFile) : PFile := ⟨x.path, markTs k x.text⟩
theorem only_box1 {F : List Nat} {w w' : World} {o : Obj} (hF : ∀ k ∈ F, k < w.heap.size) (h : Only F (w.alloc o) w') (j : Nat) (v : Value) (hc : (w.alloc o).cell? ⟨w.heap.size, j, none⟩ = some v) : w'.cell? ⟨w.heap.size, j, none⟩ = some v := by
  rw [World.cell?_of_block (h.block w.heap.size (by simp) (fun m => Nat.lt_irrefl _ (hF _ m)))]; exact hc

set_option maxHeartbeats 800000 in
theorem markFile_any (x : PFile) (A1 : Option Addr) (n1 c1 : Nat) (k : Int) (w : World) (F : List Nat) (h : Owns w (cFiles x) [.string ⟨x.path.toArray⟩, .slice A1 n1 c1] F) (hnd : F.Nodup) (h0 : 0 ≤ k) (h1 : k + cntFile1 x ≤ 1099511627776) :
    Calls Tryd.prog 14 #[.agg #[.string ⟨x.path.toArray⟩, .slice A1 n1 c1], .int .i64 k] w fun e w' => e = .returned (.int .i64 (k + cntFile1 x)) ∧ Owns w' (cFiles (markFile1 k x)) [.string ⟨x.path.toArray⟩, .slice A1 n1 c1] F ∧ Only F w w' := by
  obtain ⟨u0, us0, F1, F2, e1, rfl, o1, u1, us1, F3, F4, e2, rfl, o2, e3, rfl⟩ := h
  simp only [List.cons.injEq] at e1
  obtain ⟨rfl, rfl⟩ := e1
  simp only [List.cons.injEq] at e2
  obtain ⟨rfl, rfl⟩ := e2
  obtain ⟨_, rfl⟩ := o1
  clear e3
  rw [List.append_nil, List.nil_append] at hnd ⊢
  have l2 := Own.lt _ _ _ o2
  have hc2 := fun w' (o : Own w' (encText x.text) (.slice A1 n1 c1) F3) => markStringS_any A1 n1 c1 x.text k w' F3 o hnd h0 h1
  have hcr : k + (cntFile1 x : Nat) = k + (x.text.length : Nat) := rfl
  have Hcr := Lib.hid hcr
  clear hcr h1
  have hal : ∀ o, Only F3 w (w.alloc o) := fun o => Only.of_below ((Below.refl _ _).alloc (Nat.le_refl _) o)
  have hbl : ∀ o q, q < w.heap.size → (w.alloc o).heap[q]? = w.heap[q]? := fun o q hq => ((Below.refl w.heap.size w).alloc (Nat.le_refl _) o).block q hq
  go_enter Tryd.func14, Tryd.ntmps14
  go_wp2_with fail
  refine Calls.mono (hc2 _ (Own.same _ _ _ o2 (fun q hq => hbl _ q (l2 q hq)))) ?_
  rintro e w1 ⟨rfl, p1, y1⟩
  have on1 : Only F3 w w1 := (hal _).trans (y1.mono (fun q hq => hq))
  clear y1
  go_wp2
  go_ret
  refine ⟨?_, ?_, on1⟩
  · rw [Hcr.out]; rfl
  · exact ⟨_, _, [], F3, rfl, rfl, ⟨rfl, rfl⟩, _, _, F3, [], rfl, by simp, p1, rfl, rfl⟩
end Go.Proofs.YthohgjehcagfeaaDoor
