/- Walks: TreeSet: the program's and the reference's. -/
import Derived.Test.YthohgjehcagfeaaDoorPut
import Derived.Test.YthohgjehcagfeaaDoorSet4
import Derived.Test.YthohgjehcagfeaaDoorTreeDrop2
namespace Go.Proofs.YthohgjehcagfeaaDoor
open Go.RowKit

def okOne (x : PFile) : Prop := x.path.length ≤ 1073741824 ∧ ∀ s ∈ x.text, s.length ≤ 9223372036854775807
theorem okTree_setF {t : List PFile} {f : PFile} (ht : okTree t) (hf : okOne f) : okTree (setF t f) := fun x hx => by
  rcases setF_mem hx with e | m
  · rw [e]; exact hf
  · exact ht x m

def okFileS (x : PFile) : Prop := okOne x ∧ x.text.length ≤ 1048576
theorem okFileS_of {x : PFile} (h : okFile x) (hz : szFile x ≤ 1048576) : okFileS x := by
  unfold szFile total at hz
  exact ⟨⟨by omega, h.2⟩, by omega⟩

set_option maxHeartbeats 800000 in
theorem impl_changed_any (A A2 : Option Addr) (n c n2 c2 : Nat) (xs ys : List PFile) (w : World) (lo hi lo' hi' : Nat) (h : Rep w lo hi (encFiles xs) (.slice A n c)) (h2 : Rep w lo' hi' (encFiles ys) (.slice A2 n2 c2)) (hh : hi ≤ w.heap.size) (hh2 : hi' ≤ w.heap.size)
    (hsm : smallTree xs) (hy : okTree ys) :
    Calls Tryd.prog 25 #[.slice A n c, .slice A2 n2 c2] w fun e w' => ∃ A' n' c', e = .returned (.tuple #[.slice A' n' c', .bool (treeOk ys)]) ∧ Below w.heap.size w w' ∧
      (treeOk ys = true → Value.slice A' n' c' = .slice A2 n2 c2) ∧ (treeOk ys = false → Fresh w' w.heap.size w'.heap.size (encFiles xs) (.slice A' n' c')) := by
  have hcOk := impl_TreeOk_any A2 n2 c2 ys w lo' hi' h2 hh2 hy
  cases ho : treeOk ys
  · rw [ho] at hcOk
    have Ho := Lib.hid ho
    clear ho
    go_enter Tryd.func25, Tryd.ntmps25
    go_wp2_with fail
    refine Calls.mono hcOk ?_
    rintro e w1 ⟨rfl, hb1⟩
    have hs1 := hb1.size
    go_wp2_with fail
    refine Calls.mono (impl_copyTree_any _ _ _ xs w1 lo hi (h.keep hb1 hh) (by omega) hsm) ?_
    rintro e w2 ⟨A3, n3, c3, rfl, hb2, hf2⟩
    go_wp2
    go_ret2
    exact ⟨_, _, _, rfl, hb1.trans (hb2.mono hs1), fun e => (by cases e), fun _ => hf2.mono hs1 (Nat.le_refl _)⟩
  · rw [ho] at hcOk
    clear ho
    go_enter Tryd.func25, Tryd.ntmps25
    go_wp2_with fail
    refine Calls.mono hcOk ?_
    rintro e w1 ⟨rfl, hb1⟩
    go_wp2
    go_ret2
    exact ⟨_, _, _, rfl, hb1, fun _ => rfl, fun e => (by cases e)⟩

set_option maxRecDepth 100000 in
set_option maxHeartbeats 800000 in
theorem impl_TreeSet_any (A A1 : Option Addr) (n c n1 c1 : Nat) (xs : List PFile) (f : PFile) (w : World) (lo hi lo' hi' : Nat) (h1 : Rep w lo hi (encFiles xs) (.slice A n c)) (hf : Rep w lo' hi' (encText f.text) (.slice A1 n1 c1)) (hh1 : hi ≤ w.heap.size) (hhf : hi' ≤ w.heap.size)
    (ht1 : okTree xs) (hof : okFileS f) :
    Calls Tryd.prog 10 #[.slice A n c, .agg #[.string ⟨f.path.toArray⟩, .slice A1 n1 c1]] w fun e w' => ∃ A n c, e = .returned (.tuple #[.slice A n c, .bool (treeSetB xs f)]) ∧ Below w.heap.size w w' ∧ Fresh w' w.heap.size w'.heap.size (encFiles (treeSet xs f)) (.slice A n c) := by
  have h := h1
  clear h1
  have h1 := hf
  clear hf
  have hh := hh1
  have hh' := hhf
  clear hh1 hhf
  obtain ⟨hf, hft⟩ := hof
  have hb0 : Below w.heap.size w (w.alloc (.cells #[.string ⟨f.path.toArray⟩, .slice A1 n1 c1] 32)) := (Below.refl _ _).alloc (Nat.le_refl _) _
  have q0 : (w.alloc (.cells #[.string ⟨f.path.toArray⟩, .slice A1 n1 c1] 32)).cell? ⟨w.heap.size, 0, none⟩ = some (.string ⟨f.path.toArray⟩) := by simp [go_sem]
  have q1 : (w.alloc (.cells #[.string ⟨f.path.toArray⟩, .slice A1 n1 c1] 32)).cell? ⟨w.heap.size, 1, none⟩ = some (.slice A1 n1 c1) := by simp [go_sem]
  have hcOk := impl_TreeOk_any A n c xs (w.alloc (.cells #[.string ⟨f.path.toArray⟩, .slice A1 n1 c1] 32)) lo hi (h.keep hb0 hh) (by simp; omega) ht1
  cases ho : treeOk xs
  · have hv : treeSet xs f = [] := by unfold treeSet; rw [ho]; rfl
    have hv2 : treeSetB xs f = false := by unfold treeSetB; rw [ho]; rfl
    rw [hv, hv2]
    rw [ho] at hcOk
    clear hv hv2 ho
    go_enter Tryd.func10, Tryd.ntmps10
    go_wp2_with fail
    refine Calls.mono hcOk ?_
    rintro e w1 ⟨rfl, hb1⟩
    go_wp2
    go_ret2
    exact ⟨_, _, _, rfl, hb0.trans (hb1.mono (by simp)), Fresh.nil _ _ _ _ _⟩
  · have hsm := smallTree_ok ho
    have hasc := ascT_of ho
    have hoks := okTree_setF ht1 hf
    have hres : (treeOk (setF xs f) = true → treeSet xs f = setF xs f) ∧ (treeOk (setF xs f) = false → treeSet xs f = xs) ∧ treeSetB xs f = treeOk (setF xs f) := by
      unfold treeSet treeSetB
      rw [ho]
      exact ⟨fun e => by rw [e]; rfl, fun e => by rw [e]; rfl, by simp⟩
    rw [ho] at hcOk
    have Hres := Lib.hid hres
    obtain ⟨S, hS⟩ : ∃ S, S = setF xs f := ⟨_, rfl⟩
    have HS := Lib.hid hS
    have Hok := Lib.hid hoks
    clear hres ho hS hoks
    go_enter Tryd.func10, Tryd.ntmps10
    go_wp2_with fail
    refine Calls.mono hcOk ?_
    rintro e w1 ⟨rfl, hb1⟩
    have hs1 := hb1.size
    have d0 : w1.cell? ⟨w.heap.size, 0, none⟩ = some (.string ⟨f.path.toArray⟩) := (hb1.cell (p := ⟨w.heap.size, 0, none⟩) (by simp)).trans q0
    have d1 : w1.cell? ⟨w.heap.size, 1, none⟩ = some (.slice A1 n1 c1) := (hb1.cell (p := ⟨w.heap.size, 1, none⟩) (by simp)).trans q1
    have hbw : Below w.heap.size w w1 := hb0.trans (hb1.mono (by simp))
    simp only [World.size_alloc] at hs1
    clear q0 q1 hb0
    go_wp2_with fail
    refine Calls.mono (impl_put_any _ _ _ _ _ _ xs f w1 lo hi lo' hi' (h.keep hbw hh) (h1.keep hbw hh') (by omega) (by omega) hsm hft hasc) ?_
    rintro e w2 ⟨A2, n2, c2, rfl, hb2, hf2⟩
    have hs2 := hb2.size
    have hbw2 := hbw.trans (hb2.mono (by omega))
    go_wp2_with fail
    refine Calls.mono (impl_changed_any _ _ _ _ _ _ xs (setF xs f) w2 lo hi _ _ (h.keep hbw2 hh) hf2.rep (by omega) (Nat.le_refl _) hsm Hok.out) ?_
    rintro e w3 ⟨A3, n3, c3, rfl, hb3, hy, hn⟩
    have hs3 := hb3.size
    have Hy := Lib.hid hy
    have Hn := Lib.hid hn
    clear hy hn
    go_wp2
    go_ret2
    refine ⟨_, _, _, by rw [Hres.out.2.2]; rfl, hbw2.trans (hb3.mono (by omega)), ?_⟩
    cases hv : treeOk (setF xs f)
    · rw [Hres.out.2.1 hv]
      exact (Hn.out hv).mono (by omega) (Nat.le_refl _)
    · rw [Hres.out.1 hv]
      change Fresh _ _ _ _ (Value.slice A3 n3 c3)
      rw [Hy.out hv]
      exact ((hf2.keep hb3 (Nat.le_refl _)).mono (by omega) hs3)

set_option maxRecDepth 100000 in
set_option maxHeartbeats 800000 in
theorem spec_TreeSet_any (A A1 : Option Addr) (n c n1 c1 : Nat) (xs : List PFile) (f : PFile) (w : World) (lo hi lo' hi' : Nat) (h1 : Rep w lo hi (encFiles xs) (.slice A n c)) (hf : Rep w lo' hi' (encText f.text) (.slice A1 n1 c1)) (hh1 : hi ≤ w.heap.size) (hhf : hi' ≤ w.heap.size)
    (ht1 : okTree xs) (hof : okFileS f) :
    Calls Tryd.prog 7 #[.slice A n c, .agg #[.string ⟨f.path.toArray⟩, .slice A1 n1 c1]] w fun e w' => ∃ A n c, e = .returned (.tuple #[.slice A n c, .bool (treeSetB xs f)]) ∧ Below w.heap.size w w' ∧ Rep w' w.heap.size w'.heap.size (encFiles (treeSet xs f)) (.slice A n c) := by
  have h := h1
  clear h1
  have h1 := hf
  clear hf
  have hh := hh1
  have hh' := hhf
  clear hh1 hhf
  obtain ⟨hf, hft⟩ := hof
  have hb0 : Below w.heap.size w (w.alloc (.cells #[.string ⟨f.path.toArray⟩, .slice A1 n1 c1] 32)) := (Below.refl _ _).alloc (Nat.le_refl _) _
  have q0 : (w.alloc (.cells #[.string ⟨f.path.toArray⟩, .slice A1 n1 c1] 32)).cell? ⟨w.heap.size, 0, none⟩ = some (.string ⟨f.path.toArray⟩) := by simp [go_sem]
  have q1 : (w.alloc (.cells #[.string ⟨f.path.toArray⟩, .slice A1 n1 c1] 32)).cell? ⟨w.heap.size, 1, none⟩ = some (.slice A1 n1 c1) := by simp [go_sem]
  have hcOk := spec_l4Ok_any A n c xs (w.alloc (.cells #[.string ⟨f.path.toArray⟩, .slice A1 n1 c1] 32)) lo hi (h.keep hb0 hh) (by simp; omega) ht1
  cases ho : treeOk xs
  · have hv : treeSet xs f = [] := by unfold treeSet; rw [ho]; rfl
    have hv2 : treeSetB xs f = false := by unfold treeSetB; rw [ho]; rfl
    rw [hv, hv2]
    rw [ho] at hcOk
    clear hv hv2 ho
    go_enter Tryd.func7, Tryd.ntmps7
    go_wp2_with fail
    refine Calls.mono hcOk ?_
    rintro e w1 ⟨rfl, hb1⟩
    go_wp2
    go_ret2
    exact ⟨_, _, _, rfl, hb0.trans (hb1.mono (by simp)), Rep.of_nil _ _ _ _ _⟩
  · have hsm := smallTree_ok ho
    have hoks := okTree_setF ht1 hf
    have hres : (treeOk (setF xs f) = true → treeSet xs f = setF xs f) ∧ (treeOk (setF xs f) = false → treeSet xs f = xs) ∧ treeSetB xs f = treeOk (setF xs f) := by
      unfold treeSet treeSetB
      rw [ho]
      exact ⟨fun e => by rw [e]; rfl, fun e => by rw [e]; rfl, by simp⟩
    rw [ho] at hcOk
    have Hres := Lib.hid hres
    have Hok := Lib.hid hoks
    have hx8 := hsm.1
    clear hres ho hoks
    go_enter Tryd.func7, Tryd.ntmps7
    go_wp2_with fail
    refine Calls.mono hcOk ?_
    rintro e w1 ⟨rfl, hb1⟩
    have hs1 := hb1.size
    have d0 : w1.cell? ⟨w.heap.size, 0, none⟩ = some (.string ⟨f.path.toArray⟩) := (hb1.cell (p := ⟨w.heap.size, 0, none⟩) (by simp)).trans q0
    have d1 : w1.cell? ⟨w.heap.size, 1, none⟩ = some (.slice A1 n1 c1) := (hb1.cell (p := ⟨w.heap.size, 1, none⟩) (by simp)).trans q1
    have hbw : Below w.heap.size w w1 := hb0.trans (hb1.mono (by simp))
    simp only [World.size_alloc] at hs1
    have Rx := h.keep hbw hh
    have Rf := h1.keep hbw hh'
    have hhi : hi ≤ w1.heap.size := by omega
    have hhi' : hi' ≤ w1.heap.size := by omega
    have hwlt : w.heap.size < w1.heap.size := by omega
    clear q0 q1 hb0
    go_wp2
    go_region_held3 (fun w' => w'.cell? ⟨w.heap.size, 0, none⟩ = some (.string ⟨f.path.toArray⟩) ∧ w'.cell? ⟨w.heap.size, 1, none⟩ = some (.slice A1 n1 c1)) (first | trivial | exact ⟨cy0, cy1⟩ | exact ⟨cw0, cw1⟩ | go_keep) (first
      | (go_at_call 20; refine (spec_l4Set_any _ _ _ _ _ _ xs f w2 w1.heap.size w2.heap.size lo' hi' hf2.rep (Rf.keep hb2 hhi') hs2 (Nat.le_refl _) (Nat.le_trans hhi' hs2) hx8 hft).mono ?_
         rintro e w3 ⟨A3, n3, c3, rfl, hb3, hr3⟩
         have cy0 : w3.cell? ⟨w.heap.size, 0, none⟩ = some (.string ⟨f.path.toArray⟩) := (hb3.cell (p := ⟨w.heap.size, 0, none⟩) (Nat.lt_of_lt_of_le hwlt hs2)).trans cw0
         have cy1 : w3.cell? ⟨w.heap.size, 1, none⟩ = some (.slice A1 n1 c1) := (hb3.cell (p := ⟨w.heap.size, 1, none⟩) (Nat.lt_of_lt_of_le hwlt hs2)).trans cw1)
      | (go_at_call 21; refine (spec_l4Copy_any _ _ _ xs w1.drew lo hi (show Rep w1.drew lo hi _ _ from Rx.drewN 1) hhi hsm).mono ?_
         rintro e w2 ⟨A2, n2, c2, rfl, hb2, hf2⟩
         have hb2 : Below w1.heap.size w1 w2 := ⟨hb2.os, hb2.tape, hb2.output, hb2.size, hb2.block⟩
         have hs2 := hb2.size
         have hf2 : Fresh w2 w1.heap.size w2.heap.size (encFiles xs) (.slice A2 n2 c2) := hf2
         have cw0 : w2.cell? ⟨w.heap.size, 0, none⟩ = some (.string ⟨f.path.toArray⟩) := (hb2.cell (p := ⟨w.heap.size, 0, none⟩) hwlt).trans d0
         have cw1 : w2.cell? ⟨w.heap.size, 1, none⟩ = some (.slice A1 n1 c1) := (hb2.cell (p := ⟨w.heap.size, 1, none⟩) hwlt).trans d1))
    have hs3 := hb3.size
    have hbw3 := hbw.trans ((hb2.trans (hb3.mono hs2)).mono (by omega))
    cases hv : treeOk (setF xs f)
    · have hc3 := spec_l4Ok_any _ _ _ (setF xs f) w3 _ _ hr3 (Nat.le_refl _) Hok.out
      rw [hv] at hc3
      have Hv := Lib.hid hv
      clear hv
      go_wp2_with fail
      refine Calls.mono hc3 ?_
      rintro e w4 ⟨rfl, hb4⟩
      have hs4 := hb4.size
      have hbw4 := hbw3.trans (hb4.mono (by omega))
      go_wp2_with fail
      refine Calls.mono (spec_l4Copy_any _ _ _ xs w4 lo hi (h.keep hbw4 hh) (by omega) hsm) ?_
      rintro e w5 ⟨A5, n5, c5, rfl, hb5, hf5⟩
      go_wp2
      go_ret2
      refine ⟨_, _, _, by rw [Hres.out.2.2, Hv.out]; rfl, hbw4.trans (hb5.mono (by omega)), ?_⟩
      rw [Hres.out.2.1 Hv.out]
      exact (hf5.rep).mono (by omega) (Nat.le_refl _)
    · have hc3 := spec_l4Ok_any _ _ _ (setF xs f) w3 _ _ hr3 (Nat.le_refl _) Hok.out
      rw [hv] at hc3
      have Hv := Lib.hid hv
      clear hv
      go_wp2_with fail
      refine Calls.mono hc3 ?_
      rintro e w4 ⟨rfl, hb4⟩
      have hs4 := hb4.size
      have hbw4 := hbw3.trans (hb4.mono (by omega))
      go_wp2
      go_ret2
      refine ⟨_, _, _, by rw [Hres.out.2.2, Hv.out]; rfl, hbw4, ?_⟩
      rw [Hres.out.1 Hv.out]
      exact (hr3.keep hb4 (Nat.le_refl _)).mono (by omega) hs4
end Go.Proofs.YthohgjehcagfeaaDoor
