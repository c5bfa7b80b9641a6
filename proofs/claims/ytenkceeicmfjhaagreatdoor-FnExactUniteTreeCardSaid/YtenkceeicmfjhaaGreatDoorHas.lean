import Derived.Test.YtenkceeicmfjhaaGreatDoorJoinPlain
import Derived.Test.YtenkceeicmfjhaaGreatDoorZ13
import Derived.Test.YtenkceeicmfjhaaGreatDoorZ09
import Derived.Test.YtenkceeicmfjhaaGreatDoorZ11
import Derived.Test.YtenkceeicmfjhaaGreatDoorZ28
import Derived.OwnWalk
import Derived.Laws.Rows
/- Walks: what trees have at a path: the program's areTrees, hasAt, has.same; the reference's l6Same. -/
namespace Go.Proofs.YtenkceeicmfjhaaGreatDoor
open Go.RowKit

def two (w : World) (g : Nat) (b0 b1 : Value) : World := (w.setCell ⟨g, 0, none⟩ b0).setCell ⟨g, 1, none⟩ b1
theorem two_row {w : World} {g : Nat} {t : TypeId} {a0 a1 : Value} (b0 b1 : Value) (h : w.heap[g]? = some (.cells #[a0, a1] t (0, 0))) : (two w g b0 b1).heap[g]? = some (.cells #[b0, b1] t (0, 0)) := by
  have e1 := heap_setCell_same w g 0 _ t b0 h
  have e2 := heap_setCell_same _ g 1 _ t b1 e1
  exact e2
theorem two_same {w : World} {g lo hi : Nat} (b0 b1 : Value) (h : g < lo ∨ hi ≤ g) : Same lo hi w (two w g b0 b1) := ((Same.refl lo hi w).setCell h b0).setCell h b1
theorem two_below {w w' : World} {g B : Nat} (b0 b1 : Value) (hb : Below B w w') (h : B ≤ g) : Below B w (two w' g b0 b1) := (hb.setCell h b0).setCell h b1
theorem two_size (w : World) (g : Nat) (b0 b1 : Value) : (two w g b0 b1).heap.size = w.heap.size := by simp [two]

set_option maxHeartbeats 800000 in
theorem impl_areTrees_any (A1 A2 A3 : Option Addr) (n1 c1 n2 c2 n3 c3 : Nat) (xs ys zs : List PFile) (w : World) (lo hi lo' hi' lo'' hi'' : Nat) (h1 : Rep w lo hi (encFiles xs) (.slice A1 n1 c1)) (h2 : Rep w lo' hi' (encFiles ys) (.slice A2 n2 c2)) (h3 : Rep w lo'' hi'' (encFiles zs) (.slice A3 n3 c3))
    (hh1 : hi ≤ w.heap.size) (hh2 : hi' ≤ w.heap.size) (hh3 : hi'' ≤ w.heap.size) (ht1 : okTree xs) (ht2 : okTree ys) (ht3 : okTree zs) :
    Calls Tryz.prog 44 #[.slice A1 n1 c1, .slice A2 n2 c2, .slice A3 n3 c3] w fun e w' => e = .returned (.bool (trees3 xs ys zs)) ∧ Below w.heap.size w w' := by
  have q1 := impl_TreeOk_any A1 n1 c1 xs w lo hi h1 hh1 ht1
  have q2 := fun w' (hb : Below w.heap.size w w') => impl_TreeOk_any A2 n2 c2 ys w' lo' hi' (h2.keep hb hh2) (Nat.le_trans hh2 hb.size) ht2
  have q3 := fun w' (hb : Below w.heap.size w w') => impl_TreeOk_any A3 n3 c3 zs w' lo'' hi'' (h3.keep hb hh3) (Nat.le_trans hh3 hb.size) ht3
  unfold trees3
  clear h1 h2 h3 ht1 ht2 ht3
  cases e1 : treeOk xs with
  | false =>
    rw [e1] at q1
    clear q2 q3 e1
    go_enter Tryz.func44, Tryz.ntmps44
    go_wp2_with fail
    refine Calls.mono q1 ?_
    rintro e w1 ⟨rfl, hb1⟩
    go_wp2
    go_ret
    exact ⟨rfl, hb1⟩
  | true =>
    rw [e1] at q1
    cases e2 : treeOk ys with
    | false =>
      rw [e2] at q2
      clear q3 e1 e2
      go_enter Tryz.func44, Tryz.ntmps44
      go_wp2_with fail
      refine Calls.mono q1 ?_
      rintro e w1 ⟨rfl, hb1⟩
      go_wp2_with fail
      refine Calls.mono (q2 w1 hb1) ?_
      rintro e w2 ⟨rfl, hb2⟩
      go_wp2
      go_ret
      exact ⟨rfl, hb1.trans (hb2.mono hb1.size)⟩
    | true =>
      rw [e2] at q2
      obtain ⟨b3, e3⟩ : ∃ b3, b3 = treeOk zs := ⟨_, rfl⟩
      rw [← e3] at q3 ⊢
      clear e1 e2 e3
      go_enter Tryz.func44, Tryz.ntmps44
      go_wp2_with fail
      refine Calls.mono q1 ?_
      rintro e w1 ⟨rfl, hb1⟩
      go_wp2_with fail
      refine Calls.mono (q2 w1 hb1) ?_
      rintro e w2 ⟨rfl, hb2⟩
      have hb12 : Below w.heap.size w w2 := hb1.trans (hb2.mono hb1.size)
      go_wp2_with fail
      refine Calls.mono (q3 w2 hb12) ?_
      rintro e w3 ⟨rfl, hb3⟩
      go_wp2
      go_ret
      exact ⟨rfl, hb12.trans (hb3.mono hb12.size)⟩

set_option maxHeartbeats 800000 in
theorem impl_hasAt_any (A : Option Addr) (n c : Nat) (xs : List PFile) (s : Str) (w : World) (lo hi : Nat) (h : Rep w lo hi (encFiles xs) (.slice A n c)) (hh : hi ≤ w.heap.size) (hsm : smallTree xs) :
    Calls Tryz.prog 68 #[.slice A n c, .string ⟨s.toArray⟩] w fun e w' => ∃ A n c, e = .returned (.agg #[.slice A n c, .bool (getAt xs s).isSome]) ∧ Below w.heap.size w w' ∧ Fresh w' w.heap.size w'.heap.size (encText ((getAt xs s).getD [])) (.slice A n c) := by
  have hbx := fun o => (Below.refl w.heap.size w).alloc (Nat.le_refl _) o
  have hget := fun o => impl_get_any A n c xs s (w.alloc o) lo hi (h.keep (hbx o) hh) (by simp; omega) hsm
  obtain ⟨r, hr⟩ : ∃ r, r = getAt xs s := ⟨_, rfl⟩
  rw [← hr] at hget ⊢
  clear hr h hsm
  obtain ⟨k, hk⟩ : ∃ k, k = r.isSome := ⟨_, rfl⟩
  rw [← hk] at hget ⊢
  clear hk
  go_enter Tryz.func68, Tryz.ntmps68
  go_wp2_with fail
  refine Calls.mono (hget _) ?_
  rintro e w5 ⟨A5, n5, c5, rfl, hb5, hf5⟩
  have hR : w5.heap[w.heap.size]? = some (Obj.cells #[.slice none 0 0, .bool false] 104) := (hb5.block _ (by simp)).trans (heap_new' w _)
  have hbw : Below w.heap.size w w5 := (hbx _).trans (hb5.mono (by simp))
  have hs5 : w.heap.size + 1 ≤ w5.heap.size := by have := hb5.size; simpa using this
  have cR : ∀ j v, (#[Value.slice none 0 0, .bool false] : Array Value)[j]? = some v → w5.cell? ⟨w.heap.size, j, none⟩ = some v := fun j v hj => by simp only [World.cell?, hR]; exact hj
  have c0' := cR 0 _ rfl
  have c1' := cR 1 _ rfl
  have fR : ∀ j, w5.frozen? ⟨w.heap.size, j, none⟩ = false := fun j => by simp [World.frozen?, hR]
  have h9 := two_row (.slice A5 n5 c5) (.bool k) hR
  have hf6 : Fresh w5 (w.heap.size + 1) w5.heap.size (encText (r.getD [])) (.slice A5 n5 c5) := hf5.mono (by simp) (Nat.le_refl _)
  have H9 := Lib.hid h9
  clear hget hb5 hf5 h9 cR hR
  go_wp2
  refine bodyPost_ret (results_cell_row rfl _ (two w5 w.heap.size (.slice A5 n5 c5) (.bool k)) w.heap.size _ #[.slice A5 n5 c5, .bool k] (0, 0) _ rfl H9.out Tryz.underlying104 rfl (by kernel_rfl)) rfl ?_
  refine ⟨A5, n5, c5, rfl, two_below _ _ hbw (Nat.le_refl _), ?_⟩
  change Fresh (two w5 w.heap.size (.slice A5 n5 c5) (.bool k)) w.heap.size (two w5 w.heap.size (.slice A5 n5 c5) (.bool k)).heap.size _ _
  rw [two_size]
  exact (hf6.same (two_same _ _ (.inl (Nat.lt_succ_self _)))).mono (Nat.le_succ _) (Nat.le_refl _)

set_option maxHeartbeats 1600000 in
theorem impl_same_any (A1 A2 : Option Addr) (n1 c1 n2 c2 : Nat) (o1 o2 : Option (List Str)) (w : World) (lo hi lo' hi' : Nat) (h1 : Rep w lo hi (encText (o1.getD [])) (.slice A1 n1 c1)) (h2 : Rep w lo' hi' (encText (o2.getD [])) (.slice A2 n2 c2)) (hh1 : hi ≤ w.heap.size) (hh2 : hi' ≤ w.heap.size) :
    Calls Tryz.prog 89 #[.agg #[.slice A1 n1 c1, .bool o1.isSome], .agg #[.slice A2 n2 c2, .bool o2.isSome]] w fun e w' => e = .returned (.bool (decide (o1 = o2))) ∧ Below w.heap.size w w' := by
  have hbx := fun o => (Below.refl w.heap.size w).alloc (Nat.le_refl _) o
  have hby := fun o o' => (hbx o).alloc (o := o') (by simp)
  have hq := fun o o' => slices_Equal_any A1 A2 n1 c1 n2 c2 (o1.getD []) (o2.getD []) ((w.alloc o).alloc o') lo hi lo' hi' (h1.keep (hby o o') hh1) (h2.keep (hby o o') hh2)
  clear h1 h2
  cases o1 with
  | none =>
    cases o2 with
    | none =>
      simp only [Option.isSome_none, Option.getD_none] at hq ⊢
      go_enter Tryz.func89, Tryz.ntmps89
      go_wp2_with fail
      refine Calls.mono (hq _ _) ?_
      rintro e w2 ⟨rfl, q, rfl⟩
      go_wp2
      go_ret
      exact ⟨by simp, below_drewN (hby _ _) _⟩
    | some y =>
      simp only [Option.isSome_none, Option.isSome_some]
      clear hq
      go_enter Tryz.func89, Tryz.ntmps89
      go_wp2
      go_ret
      exact ⟨by simp, hby _ _⟩
  | some x =>
    cases o2 with
    | none =>
      simp only [Option.isSome_none, Option.isSome_some]
      clear hq
      go_enter Tryz.func89, Tryz.ntmps89
      go_wp2
      go_ret
      exact ⟨by simp, hby _ _⟩
    | some y =>
      simp only [Option.isSome_some, Option.getD_some] at hq ⊢
      obtain ⟨b, hb⟩ : ∃ b, b = decide (x = y) := ⟨_, rfl⟩
      rw [← hb] at hq
      have Hb := Lib.hid hb
      clear hb
      go_enter Tryz.func89, Tryz.ntmps89
      go_wp2_with fail
      refine Calls.mono (hq _ _) ?_
      rintro e w2 ⟨rfl, q, rfl⟩
      go_wp2
      go_ret
      exact ⟨by rw [Hb.out]; simp, below_drewN (hby _ _) _⟩

set_option maxHeartbeats 1600000 in
theorem spec_l6Same_any (A1 A2 : Option Addr) (n1 c1 n2 c2 : Nat) (o1 o2 : Option (List Str)) (w : World) (lo hi lo' hi' : Nat) (h1 : Rep w lo hi (encText (o1.getD [])) (.slice A1 n1 c1)) (h2 : Rep w lo' hi' (encText (o2.getD [])) (.slice A2 n2 c2)) :
    Calls Tryz.prog 79 #[.slice A1 n1 c1, .bool o1.isSome, .slice A2 n2 c2, .bool o2.isSome] w fun e w' => e = .returned (.bool (decide (o1 = o2))) ∧ ∃ k, w' = w.drewN k := by
  have hq := spec_l1Same_any A1 A2 n1 c1 n2 c2 (o1.getD []) (o2.getD []) w lo hi lo' hi' h1 h2
  clear h1 h2
  cases o1 with
  | none =>
    cases o2 with
    | none =>
      simp only [Option.isSome_none]
      clear hq
      go_enter Tryz.func79, Tryz.ntmps79
      go_wp2
      go_ret
      exact ⟨by simp, 0, rfl⟩
    | some y =>
      simp only [Option.isSome_none, Option.isSome_some]
      clear hq
      go_enter Tryz.func79, Tryz.ntmps79
      go_wp2
      go_ret
      exact ⟨by simp, 0, rfl⟩
  | some x =>
    cases o2 with
    | none =>
      simp only [Option.isSome_none, Option.isSome_some]
      clear hq
      go_enter Tryz.func79, Tryz.ntmps79
      go_wp2
      go_ret
      exact ⟨by simp, 0, rfl⟩
    | some y =>
      simp only [Option.isSome_some, Option.getD_some] at hq ⊢
      obtain ⟨b, hb⟩ : ∃ b, b = decide (x = y) := ⟨_, rfl⟩
      rw [← hb] at hq
      have Hb := Lib.hid hb
      clear hb
      go_enter Tryz.func79, Tryz.ntmps79
      go_wp2_with fail
      refine Calls.mono hq ?_
      rintro e w2 ⟨rfl, q, rfl⟩
      go_wp2
      go_ret
      exact ⟨by rw [Hb.out]; simp, q, rfl⟩
end Go.Proofs.YtenkceeicmfjhaaGreatDoor
