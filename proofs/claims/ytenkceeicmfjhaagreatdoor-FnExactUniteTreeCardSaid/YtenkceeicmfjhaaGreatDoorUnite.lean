import Derived.Test.YtenkceeicmfjhaaGreatDoorUnitePlain
import Derived.Test.YtenkceeicmfjhaaGreatDoorJoinOf
import Derived.Test.YtenkceeicmfjhaaGreatDoorBases2
import Derived.Test.YtenkceeicmfjhaaGreatDoorZ31
import Derived.Deep.RegionHeld3
/- Walks: UniteTree, the program's. -/
namespace Go.Proofs.YtenkceeicmfjhaaGreatDoor
open Go.RowKit

theorem keepBox {wr W : World} {B b o : Nat} {u0 u1 : Value} (hb : Below B wr W) (hl : b < B) (h0 : wr.cell? ⟨b, o, none⟩ = some u0) (h1 : wr.cell? ⟨b, o + 1, none⟩ = some u1) :
    W.cell? ⟨b, o, none⟩ = some u0 ∧ W.cell? ⟨b, o + 1, none⟩ = some u1 :=
  ⟨(hb.cell (p := ⟨b, o, none⟩) hl).trans h0, (hb.cell (p := ⟨b, o + 1, none⟩) hl).trans h1⟩

set_option maxRecDepth 100000 in
set_option maxHeartbeats 2000000 in
theorem impl_baseTree_any (r : PRepo) (A0 A1 : Option Addr) (n0 c0 n1 c1 : Nat) (w : World) (lo hi : Nat) (h0 : Rep w lo hi (encCommits r.commits) (.slice A0 n0 c0)) (hh : hi ≤ w.heap.size) (hok : repoOk r = true) (a b : Nat) (ha : a < r.commits.length) (hb : b < r.commits.length) :
    Calls Tryz.prog 24 #[.agg #[.slice A0 n0 c0, .slice A1 n1 c1], .int .i64 a, .int .i64 b] w fun e w' => ∃ A n c, e = .returned (.slice A n c) ∧ Below w.heap.size w w' ∧ Rep w' lo hi (encFiles (baseTree r a b)) (.slice A n c) := by
  have hl0 := Commits.n h0
  have hbx := fun o => (Below.refl w.heap.size w).alloc (Nat.le_refl _) o
  have cb := fun W (h : Rep W lo hi (encCommits r.commits) (.slice A0 n0 c0)) hW => impl_bases_any r A0 A1 n0 c0 n1 c1 W lo hi h hW hok a b ha hb
  have h16 : r.commits.length ≤ 16 := (repoOk_iff.1 hok).1
  have hbl := basesOf_len r a b
  have Hin := Lib.hid (fun x => basesOf_in (r := r) (a := a) (b := b) (x := x))
  have Hnone := Lib.hid (baseTree_none (r := r) (a := a) (b := b))
  have Hlast := Lib.hid (fun m k => baseTree_last (r := r) (a := a) (b := b) (m := m) (k := k))
  obtain ⟨T, hT⟩ : ∃ T, T = baseTree r a b := ⟨_, rfl⟩
  change ∀ W (h : Rep W lo hi (encCommits r.commits) (.slice A0 n0 c0)) (hW : hi ≤ W.heap.size), Calls _ _ _ W fun e w' => ∃ A n c, e = .returned (.slice A n c) ∧ Below W.heap.size W w' ∧ Fresh w' W.heap.size w'.heap.size (encInts (basesOf r a b)) (.slice A n c) at cb
  obtain ⟨L, hL⟩ : ∃ L, L = basesOf r a b := ⟨_, rfl⟩
  rw [← hL] at cb hbl Hin Hnone Hlast
  rw [← hT] at Hnone Hlast ⊢
  have Hl0 := Lib.hid hl0
  have ct := fun (k : Nat) (hk : k < n0) W (h : Rep W lo hi (encCommits r.commits) (.slice A0 n0 c0)) hW => impl_tree_any r A0 A1 n0 c0 n1 c1 W lo hi h hW k hk
  clear hT hL ha hb hok hl0
  go_enter Tryz.func24, Tryz.ntmps24
  go_wp2_with fail
  refine Calls.mono (cb _ (h0.keep (hbx _) hh) (by simp; omega)) ?_
  rintro e w1 ⟨A3, n3, c3, rfl, hb1, hf⟩
  have q0 := box_two (a := w.heap.size) (j := 0) (v := .slice A0 n0 c0) hb1 (by simp [go_sem]) (Nat.le_refl _)
  have q1 := box_two (a := w.heap.size) (j := 1) (v := .slice A1 n1 c1) hb1 (by simp [go_sem]) (Nat.le_refl _)
  have hbw : Below w.heap.size w w1 := (hbx _).trans (hb1.mono (by simp))
  have hsz := hbw.size
  have hs1 : w.heap.size < w1.heap.size := by have := hb1.size; simp at this; omega
  have hR : Rep w1 w.heap.size w1.heap.size (encInts L) (.slice A3 n3 c3) := (hf.mono (lo' := w.heap.size) (by simp) (Nat.le_refl _)).rep
  have hn3 := Ints.n hR
  obtain ⟨hc3, hm3⟩ := Ints.cap hR
  subst hn3
  clear hb1 hf cb
  cases L with
  | nil =>
    have Ht := Lib.hid (Hnone.out rfl)
    clear hR
    go_wp2
    go_ret
    exact ⟨none, 0, 0, rfl, hbw, by rw [Ht.out]; exact (Fresh.nil _ lo hi _ _).rep⟩
  | cons x0 L0 =>
    obtain ⟨L, hL⟩ : ∃ L, L = x0 :: L0 := ⟨_, rfl⟩
    obtain ⟨m, hm⟩ : ∃ m, L.length = m + 1 := ⟨L0.length, by rw [hL]; rfl⟩
    rw [← hL] at hR hbl Hin Hlast hc3 ⊢
    clear hL Hnone
    have hmn : m < L.length := by omega
    obtain ⟨b3, o3, x, rfl, hb3lo, hb3, hx, d3⟩ := Ints.at hR hmn
    obtain ⟨k, rfl, hk⟩ := Hin.out x (List.mem_of_getElem? hx)
    have Ht := Lib.hid (Hlast.out m k hm hx)
    have hk0 : k < n0 := by rw [Hl0.out]; exact hk
    have hsub : IntKind.i64.wrap ((L.length : Int) - 1) = (m : Int) := by rw [IntKind.wrap_i64]; omega
    have hne : ((L.length : Int) == 0) = false := by rw [beq_eq_false_iff_ne]; omega
    have hne2 : ¬ (L.length : Int) = 0 := by omega
    have hmi : (m : Int) < (L.length : Int) := by omega
    have hctk := ct k hk0
    have hRc := h0.keep hbw hh
    have hhW : hi ≤ w1.heap.size := by omega
    clear hx hk ct Hlast Hin hm
    go_wp2
    go_region_held3 (fun w' => w'.cell? ⟨w.heap.size, 0, none⟩ = some (.slice A0 n0 c0) ∧ w'.cell? ⟨w.heap.size, 1, none⟩ = some (.slice A1 n1 c1) ∧ w'.cell? ⟨b3, o3 + m, none⟩ = some (.int .i64 k)) (first | (with_reducible trivial) | (with_reducible exact ⟨q0, q1, d3⟩) | (with_reducible exact cy) | go_keep) ((
      go_at_call 25; refine (hctk w1.drew (show Rep w1.drew lo hi _ (.slice A0 n0 c0) from hRc.drewN 1) (show hi ≤ w1.heap.size from hhW)).mono ?_
      rintro e w5 ⟨A5, n5, c5, rfl, hb5, hr5⟩
      have hb5' : Below w1.heap.size w1 w5 := ⟨hb5.os, hb5.tape, hb5.output, hb5.size, hb5.block⟩
      have cy : w5.cell? ⟨w.heap.size, 0, none⟩ = some (.slice A0 n0 c0) ∧ w5.cell? ⟨w.heap.size, 1, none⟩ = some (.slice A1 n1 c1) ∧ w5.cell? ⟨b3, o3 + m, none⟩ = some (.int .i64 k) :=
        ⟨(hb5'.cell (p := ⟨w.heap.size, 0, none⟩) hs1).trans q0, (hb5'.cell (p := ⟨w.heap.size, 1, none⟩) hs1).trans q1, (hb5'.cell (p := ⟨b3, o3 + m, none⟩) hb3).trans d3⟩))
    have Hr5 := Lib.hid hr5
    have hbz := hbw.trans (hb5'.mono hsz)
    clear hr5 hb5 hb5' cy
    go_wp2
    go_ret
    exact ⟨_, _, _, rfl, hbz, by rw [Ht.out]; exact Hr5.out⟩

set_option maxRecDepth 100000 in
set_option maxHeartbeats 4000000 in
theorem impl_UniteTree_any (a b : Int) (r : PRepo) (A0 A1 : Option Addr) (n0 c0 n1 c1 : Nat) (w : World) (lo hi : Nat) (h0 : Rep w lo hi (encCommits r.commits) (.slice A0 n0 c0)) (h1 : Rep w lo hi (encHeads r.heads) (.slice A1 n1 c1)) (hh : hi ≤ w.heap.size) (hr : okRepoS r) :
    Calls Tryz.prog 7 #[.agg #[.slice A0 n0 c0, .slice A1 n1 c1], .int .i64 a, .int .i64 b] w fun e w' => ∃ A n c, e = .returned (.tuple #[.slice A n c, .bool (uniteTree r a b).isSome]) ∧ Below w.heap.size w w' ∧ Fresh w' w.heap.size w'.heap.size (encFiles ((uniteTree r a b).getD [])) (.slice A n c) := by
  have hca := fun w (h0 : Rep w lo hi (encCommits r.commits) (.slice A0 n0 c0)) (h1 : Rep w lo hi (encHeads r.heads) (.slice A1 n1 c1)) g hh hb hp => impl_are_any g [a, b] r A0 A1 n0 c0 n1 c1 w lo hi h0 h1 hh hr (by simp) hb hp
  have hbx := fun o o' => ((Below.refl w.heap.size w).alloc (Nat.le_refl _) o).alloc (by simp) o'
  have Hl0 := Lib.hid (Commits.n h0)
  obtain ⟨v, hv9⟩ : ∃ v, v = uniteTree r a b := ⟨_, rfl⟩
  rw [← hv9]
  cases hv : (repoOk r && areIn r.commits.length [a, b])
  · rw [hv] at hca
    have Hv := Lib.hid (show v = none by rw [hv9]; exact unite_no hv)
    clear hv hv9
    go_enter Tryz.func7, Tryz.ntmps7
    go_wp2_with fail
    refine Calls.mono (hca _ (h0.keep (hbx _ _) hh) (h1.keep (hbx _ _) hh) (w.heap.size + 1) (by simp; omega) (by simp) ?_) ?_
    · intro j x hx
      rcases j with _ | _ | j <;> simp at hx <;> subst hx <;> simp [go_sem]
    rintro e w1 ⟨rfl, hb1⟩
    have hbw : Below w.heap.size w w1 := (hbx _ _).trans (hb1.mono (by simp; omega))
    clear hb1
    go_wp2
    go_ret2
    exact ⟨none, 0, 0, by rw [Hv.out]; rfl, hbw, by rw [Hv.out]; exact Fresh.nil _ _ _ _ _⟩
  · rw [hv] at hca
    obtain ⟨ho, ⟨ka, rfl, hka⟩, kb, rfl, hkb⟩ := are_two hv
    have Hv := Lib.hid (show v = joinTree (baseTree r ka kb) (treeAtC r.commits ka) (treeAtC r.commits kb) by rw [hv9]; exact unite_yes hv)
    have cbase := fun W (h : Rep W lo hi (encCommits r.commits) (.slice A0 n0 c0)) hW => impl_baseTree_any r A0 A1 n0 c0 n1 c1 W lo hi h hW ho ka kb hka hkb
    have cta := fun W (h : Rep W lo hi (encCommits r.commits) (.slice A0 n0 c0)) hW => impl_tree_any r A0 A1 n0 c0 n1 c1 W lo hi h hW ka (by rw [Hl0.out]; exact hka)
    have ctb := fun W (h : Rep W lo hi (encCommits r.commits) (.slice A0 n0 c0)) hW => impl_tree_any r A0 A1 n0 c0 n1 c1 W lo hi h hW kb (by rw [Hl0.out]; exact hkb)
    have hjt := fun X Y Z n c n' c' n'' c'' W hX hY hZ hW1 hW2 hW3 => impl_JoinTree_any X Y Z n c n' c' n'' c'' (baseTree r ka kb) (treeAtC r.commits ka) (treeAtC r.commits kb) W lo hi lo hi lo hi hX hY hZ hW1 hW2 hW3 (okTree_base hr ka kb) (okTree_at hr ka) (okTree_at hr kb)
    obtain ⟨tb, htb⟩ : ∃ tb, tb = baseTree r ka kb := ⟨_, rfl⟩
    obtain ⟨ta, hta⟩ : ∃ ta, ta = treeAtC r.commits ka := ⟨_, rfl⟩
    obtain ⟨tc, htc⟩ : ∃ tc, tc = treeAtC r.commits kb := ⟨_, rfl⟩
    rw [← htb] at cbase hjt Hv
    rw [← hta] at cta hjt Hv
    rw [← htc] at ctb hjt Hv
    rw [← Hv.out] at hjt
    clear hv hv9 ho hka hkb htb hta htc
    go_enter Tryz.func7, Tryz.ntmps7
    go_wp2_with fail
    refine Calls.mono (hca _ (h0.keep (hbx _ _) hh) (h1.keep (hbx _ _) hh) (w.heap.size + 1) (by simp; omega) (by simp) ?_) ?_
    · intro j x hx
      rcases j with _ | _ | j <;> simp at hx <;> subst hx <;> simp [go_sem]
    rintro e w1 ⟨rfl, hb1⟩
    have q0 := box_two (a := w.heap.size) (j := 0) (v := .slice A0 n0 c0) hb1 (by simp [go_sem]) (by simp)
    have q1 := box_two (a := w.heap.size) (j := 1) (v := .slice A1 n1 c1) hb1 (by simp [go_sem]) (by simp)
    have hbw : Below w.heap.size w w1 := (hbx _ _).trans (hb1.mono (by simp; omega))
    have hsz := hbw.size
    have hs1 : w.heap.size < w1.heap.size := by have := hb1.size; simp at this; omega
    have hRc := h0.keep hbw hh
    have hhW : hi ≤ w1.heap.size := by omega
    clear hb1 hca
    go_wp2
    go_region_held3 (fun w' => w'.cell? ⟨w.heap.size, 0, none⟩ = some (.slice A0 n0 c0) ∧ w'.cell? ⟨w.heap.size, 1, none⟩ = some (.slice A1 n1 c1)) (first | (with_reducible trivial) | (with_reducible exact ⟨q0, q1⟩) | (with_reducible exact x5) | (with_reducible exact x6) | (with_reducible exact x7) | (with_reducible exact x8) | go_keep) (first
      | (go_at_call 23; refine (hjt A5 A6 A7 n5 c5 n6 c6 n7 c7 w7 ((hr5.keep hb6 hh5).keep hb7 hh6) (hr6.keep hb7 hh6) hr7 hh7 hh7 hh7).mono ?_
         rintro e w8 ⟨A8, n8, c8, rfl, hb8, hf8⟩
         have hb8' : Below w1.heap.size w1 w8 := hb7'.trans (hb8.mono hb7'.size)
         have x8 := keepBox (o := 0) hb8' hs1 q0 q1)
      | (go_at_call 25; refine (ctb w6 (hRc.keep hb6' hhW) hh6).mono ?_
         rintro e w7 ⟨A7, n7, c7, rfl, hb7, hr7⟩
         have hb7' : Below w1.heap.size w1 w7 := hb6'.trans (hb7.mono hb6'.size)
         have hh7 : hi ≤ w7.heap.size := Nat.le_trans hhW hb7'.size
         have x7 := keepBox (o := 0) hb7' hs1 q0 q1)
      | (go_at_call 25; refine (cta w5 (hRc.keep hb5' hhW) hh5).mono ?_
         rintro e w6 ⟨A6, n6, c6, rfl, hb6, hr6⟩
         have hb6' : Below w1.heap.size w1 w6 := hb5'.trans (hb6.mono hb5'.size)
         have hh6 : hi ≤ w6.heap.size := Nat.le_trans hhW hb6'.size
         have x6 := keepBox (o := 0) hb6' hs1 q0 q1)
      | (go_at_call 24; refine (cbase w1.drew (show Rep w1.drew lo hi _ (.slice A0 n0 c0) from hRc.drewN 1) (show hi ≤ w1.heap.size from hhW)).mono ?_
         rintro e w5 ⟨A5, n5, c5, rfl, hb5, hr5⟩
         have hb5' : Below w1.heap.size w1 w5 := ⟨hb5.os, hb5.tape, hb5.output, hb5.size, hb5.block⟩
         have hh5 : hi ≤ w5.heap.size := Nat.le_trans hhW hb5'.size
         have x5 := keepBox (o := 0) hb5' hs1 q0 q1))
    have Hf8 := Lib.hid (hf8.mono (lo' := w.heap.size) (by have := hb7'.size; omega) (Nat.le_refl _))
    have hbz := hbw.trans (hb8'.mono hsz)
    clear hf8 hb8 hb8' x8 x7 x6 x5 hr5 hr6 hr7 hb5 hb5' hb6 hb6' hb7 hb7'
    go_wp2
    go_ret2
    exact ⟨_, _, _, rfl, hbz, Hf8.out⟩
end Go.Proofs.YtenkceeicmfjhaaGreatDoor
