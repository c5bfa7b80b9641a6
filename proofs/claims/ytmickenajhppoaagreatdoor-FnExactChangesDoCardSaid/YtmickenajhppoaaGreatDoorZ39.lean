/- Several of my texts in one: ChangesOk, SpecChangesOk. -/
import Derived.Test.YtmickenajhppoaaGreatDoorChange
import Derived.Test.YtmickenajhppoaaGreatDoorZ37
import Derived.Test.YtmickenajhppoaaGreatDoorHChange
import Derived.Test.YtmickenajhppoaaGreatDoorSpecChange
/- Walk: the program's ChangesOk. -/
namespace Go.Proofs.YtmickenajhppoaaGreatDoor
open Go.RowKit

theorem le_sum_mem : ∀ {l : List Nat} {a : Nat}, a ∈ l → a ≤ l.sum
  | x :: l, a, h => by
    rw [List.sum_cons]
    rcases List.mem_cons.1 h with e | m
    · omega
    · have := le_sum_mem m
      omega
theorem small_changes {xs : List PChange} (h : szChanges xs ≤ 1048576) : ∀ x ∈ xs, x.path.length ≤ 1073741824 ∧ x.dest.length ≤ 1073741824 := by
  intro x hx
  have h1 : szChange x ≤ (xs.map szChange).sum := le_sum_mem (List.mem_map_of_mem hx)
  have h2 : szChange x = x.path.length + x.dest.length + total x.text + szHunks x.patch := rfl
  unfold szChanges at h
  omega
theorem all_next {α : Type} {p : α → Bool} {xs : List α} {k : Nat} {x : α} (hx : xs[k]? = some x) (h : (xs.take k).all p = true) : (xs.take (k + 1)).all p = p x := by
  rw [List.take_add_one, hx, List.all_append, h]
  simp
theorem all_changes_false {α : Type} {p : α → Bool} {xs : List α} {k : Nat} {x : α} (hx : xs[k]? = some x) (h : p x = false) : xs.all p = false := by
  cases e : xs.all p with
  | false => rfl
  | true =>
    rw [List.all_eq_true] at e
    rw [e x (List.mem_of_getElem? hx)] at h
    cases h

set_option maxRecDepth 100000 in
set_option maxHeartbeats 2000000 in
theorem impl_ChangesOk_any (A : Option Addr) (n c : Nat) (xs : List PChange) (w : World) (lo hi : Nat) (h : Rep w lo hi (encChanges xs) (.slice A n c)) (hh : hi ≤ w.heap.size) (hz : szChanges xs ≤ 1048576) :
    Calls Tryz.prog 24 #[.slice A n c] w fun e w' => e = .returned (.bool (changesOk xs)) ∧ Below w.heap.size w w' := by
  have hl := Changes.n h
  obtain ⟨hc, hm⟩ := Changes.cap h
  subst hl
  have hsm := small_changes hz
  have hdef : changesOk xs = (decide (xs.length ≤ 16) && (xs.all changeOk && decide (pathsL xs).Nodup)) := rfl
  obtain ⟨ok, hok⟩ : ∃ ok, ok = changesOk xs := ⟨_, rfl⟩
  rw [← hok] at hdef ⊢
  have Hdef := Lib.hid hdef
  clear hdef hok
  by_cases h16 : xs.length ≤ 16
  · have h16' : ¬ ((16 : Int) < (xs.length : Int)) := by omega
    go_enter Tryz.func24, Tryz.ntmps24
    go_wp2
    go_loopw [11] (fun i wr => ∃ k : Nat, k ≤ xs.length ∧ i = .int .i64 k ∧ Hid ((xs.take k).all changeOk = true) ∧ Below w.heap.size w wr) (fun i _ => xs.length - (intOf i).toNat)
    case atStart => exact ⟨0, Nat.zero_le _, rfl, Lib.hid (by simp), Below.refl _ _⟩
    case round =>
      obtain ⟨k, hk, rfl, hall, hb⟩ := hrel
      have hsz := hb.size
      by_cases hkn : k < xs.length
      · have hkn' : (k : Int) < (xs.length : Int) := by omega
        obtain ⟨b1, o1, x, rfl, _, hbhi, hx, A3, n3, c3, A4, n4, c4, d0, d1, d2, d3, r3, d4, r4⟩ := Changes.at (h.keep hb hh) hkn
        obtain ⟨wo, rfl⟩ : ∃ wo : World, wo = wr := ⟨_, rfl⟩
        have hsx := hsm x (List.mem_of_getElem? hx)
        have hcall := fun w' (hb' : Below wo.heap.size wo w') => impl_changeOk_any x A3 A4 n3 c3 n4 c4 w' lo hi (r3.keep hb' (Nat.le_trans hh hsz)) (r4.keep hb' (Nat.le_trans hh hsz)) (Nat.le_trans (Nat.le_trans hh hsz) hb'.size) hsx.1 hsx.2
        obtain ⟨v, hv⟩ : ∃ v, v = changeOk x := ⟨_, rfl⟩
        rw [← hv] at hcall
        have Hx := Lib.hid hx
        have Hv := Lib.hid hv
        clear hx hv r3 r4
        go_wp2_with fail
        refine Calls.mono (hcall _ ((Below.refl wo.heap.size wo).alloc (Nat.le_refl _) _)) ?_
        rintro e w2 ⟨rfl, hb2⟩
        have hb02 : Below w.heap.size w w2 := (hb.alloc (by omega) _).trans (hb2.mono (by simp; omega))
        clear hcall hb2
        cases v
        · go_wp2
          go_ret
          exact ⟨by rw [Hdef.out, all_changes_false Hx.out Hv.out.symm]; simp, hb02⟩
        · have Hn := Lib.hid (show (xs.take (k + 1)).all changeOk = true by rw [all_next Hx.out hall.out, ← Hv.out])
          go_wp2
          go_roundw
          case rel => exact ⟨k + 1, by omega, by go_num, Hn, hb02⟩
          case measure => first | (simp [intOf]; done) | (simp [intOf]; omega)
      · obtain rfl : k = xs.length := by omega
        have hall2 := hall.out
        rw [List.take_length] at hall2
        have hpl := pathsL_len xs
        have hcm := compact_len (pathsL xs)
        go_wp2_with fail
        refine Calls.mono (impl_pathsOf_any A xs.length c xs _ lo hi (h.keep hb hh) (Nat.le_trans hh hsz) h16) ?_
        rintro e w2 ⟨A2, c2, rfl, hown2, hb2⟩
        have hb02 : Below w.heap.size w w2 := hb.trans (hb2.mono hsz)
        go_wp2_with fail
        have hsl : (sortS (pathsL xs)).length = (pathsL xs).length := (sortS_perm _).length_eq
        refine Calls.mono (clone_any A2 _ c2 _ (sortS (pathsL xs)) _ hown2 (by omega)) ?_
        rintro e w3 ⟨A3, c3, rfl, hown3, hb3⟩
        have hb03 : Below w.heap.size w w3 := hb02.trans (hb3.mono hb02.size)
        go_wp2_with fail
        refine Calls.mono (compact_any A3 _ c3 _ (sortS (pathsL xs)) _ hown3 (by omega)) ?_
        rintro e w4 ⟨A4, c4, rfl, hown4, hg4, _⟩
        have hs2 := hb02.size
        have hs3 := hb03.size
        have hb04 : Below w.heap.size w w4 := hb03.grown hg4 hs3 (fun g hg => by have := (hown3.lt g hg).1; omega)
        clear hg4 hown4 hown3 hown2
        obtain ⟨m, hm⟩ : ∃ m, m = (Lib.compact (sortS (pathsL xs))).length := ⟨_, rfl⟩
        obtain ⟨q, hq⟩ : ∃ q, q = (pathsL xs).length := ⟨_, rfl⟩
        rw [← hm, ← hq] at hcm
        rw [← hm, ← hq]
        have hm8 : m ≤ 32 := by
          have h9 : (Lib.compact (sortS (pathsL xs))).length = ((List.range (sortS (pathsL xs)).length).filter (Lib.keeps (sortS (pathsL xs)).toArray)).length := by simp [Lib.compact, Lib.compactUpTo]
          have h8 := List.length_filter_le (Lib.keeps (sortS (pathsL xs)).toArray) (List.range (sortS (pathsL xs)).length)
          simp only [List.length_range] at h8
          omega
        have hq8 : q ≤ 32 := by omega
        have Hcm := Lib.hid hcm
        clear hcm hm hq hpl hsl
        go_wp2
        go_ret
        refine ⟨?_, hb04⟩
        rw [Hdef.out, hall2]
        by_cases e : m = q
        · simp [e, Hcm.out.1 e, h16]
        · have e2 : ¬ (pathsL xs).Nodup := fun h9 => e (Hcm.out.2 h9)
          simp [e2]
          omega
  · have h16' : (16 : Int) < (xs.length : Int) := by omega
    go_enter Tryz.func24, Tryz.ntmps24
    go_wp2
    go_ret
    exact ⟨by rw [Hdef.out]; simp [h16], Below.refl _ _⟩
end Go.Proofs.YtmickenajhppoaaGreatDoor

/- Walk: the reference's l5Ok, ChangesOk. -/
namespace Go.Proofs.YtmickenajhppoaaGreatDoor
open Go.RowKit

set_option maxRecDepth 100000 in
set_option maxHeartbeats 4000000 in
theorem spec_l5Ok_any (A : Option Addr) (n c : Nat) (xs : List PChange) (w : World) (lo hi : Nat) (h : Rep w lo hi (encChanges xs) (.slice A n c)) (hh : hi ≤ w.heap.size) (hz : szChanges xs ≤ 1048576) (hs : ∀ x ∈ xs, okChange x) :
    Calls Tryz.prog 18 #[.slice A n c] w fun e w' => e = .returned (.bool (changesOk xs)) ∧ Below w.heap.size w w' := by
  have hl := Changes.n h
  obtain ⟨hc, hm⟩ := Changes.cap h
  subst hl
  have Hsm := Lib.hid (small_changes hz)
  have Hs := Lib.hid hs
  clear hs
  obtain ⟨ok, hok⟩ : ∃ ok, ok = changesOk xs := ⟨_, rfl⟩
  rw [← hok]
  have Hok := Lib.hid hok
  clear hok
  go_enter Tryz.func18, Tryz.ntmps18
  go_wp2
  go_loopw [3] (fun i wr => ∃ k : Nat, k ≤ xs.length ∧ i = .int .i64 k ∧ Hid (okTo xs k) ∧ Below w.heap.size w wr) (fun i _ => xs.length - (intOf i).toNat)
  case atStart => exact ⟨0, Nat.zero_le _, rfl, Lib.hid (okTo_zero xs), Below.refl _ _⟩
  case round =>
    obtain ⟨k, hk, rfl, ht, hb⟩ := hrel
    have hsz := hb.size
    by_cases hkn : k < xs.length
    · have hkn' : (k : Int) < (xs.length : Int) := by omega
      obtain ⟨wo, rfl⟩ : ∃ wo : World, wo = wr := ⟨_, rfl⟩
      obtain ⟨b1, o1, x, rfl, _, hbhi, hx, A3, n3, c3, A4, n4, c4, d0, d1, d2, d3, r3, d4, r4⟩ := Changes.at (h.keep hb hh) hkn
      have hmem := List.mem_of_getElem? hx
      have hsx := Hsm.out x hmem
      have hox := Hs.out x hmem
      have hho : hi ≤ wo.heap.size := Nat.le_trans hh hsz
      have hW2 := h.keep hb hh
      have hnext := okTo_next hx ht.out
      replace d0 := Later.cell d0
      replace d1 := Later.cell d1
      replace d2 := Later.cell d2
      replace d3 := Later.cell d3
      replace d4 := Later.cell d4
      have c1 := fun u : Later wo => spec_l5One_any x A3 A4 n3 c3 n4 c4 u.val lo hi (r3.later hho u) (r4.later hho u) (Nat.le_trans hho u.below.size) hsx.1 hsx.2 hox
      have cf1 := fun u : Later wo => spec_l5Free_any (some ⟨b1, o1, none⟩) c k xs x.path u.val lo hi (hW2.later hho u) hk
      have cf2 := fun u : Later wo => spec_l5Free_any (some ⟨b1, o1, none⟩) c k xs x.dest u.val lo hi (hW2.later hho u) hk
      have hst : okStep xs k x = (changeOk x && (freeP (xs.take k) x.path && (x.dest.isEmpty || freeP (xs.take k) x.dest))) := rfl
      obtain ⟨v1, hv1⟩ : ∃ v, v = changeOk x := ⟨_, rfl⟩
      obtain ⟨f1, hf1⟩ : ∃ v, v = freeP (xs.take k) x.path := ⟨_, rfl⟩
      obtain ⟨f2, hf2⟩ : ∃ v, v = freeP (xs.take k) x.dest := ⟨_, rfl⟩
      rw [← hv1, ← hf1, ← hf2] at hst
      simp only [← hv1] at c1
      simp only [← hf1] at cf1
      simp only [← hf2] at cf2
      obtain ⟨st, hst2⟩ : ∃ st, st = okStep xs k x := ⟨_, rfl⟩
      rw [← hst2] at hst hnext
      have k0 : (0 : Int) ≤ (k : Int) := by omega
      have k1 : (k : Int) ≤ (xs.length : Int) := by omega
      have k2 : (k : Int) ≤ (c : Int) := by omega
      clear hx hmem hsx hox hW2 r3 r4 hv1 hf1 hf2 hst2
      have Hnext := Lib.hid hnext
      have Hst := Lib.hid hst
      clear hnext hst
      go_wp2
      refine wp_region_later_lit (by kernel_rfl) (by kernel_rfl) ?_; try simp only [List.append_eq, List.cons_append, List.nil_append]
      cases v1
      · have Hno := Lib.hid (okTo_not (fun h9 => by have := Hnext.out.2 h9; rw [Hst.out] at this; simp at this))
        repeat (go_big_quiet_step (((first | (go_at_call 43; with_reducible exact Calls.later (c1 _)) | (go_at_call 44; first | with_reducible exact Calls.later_same (cf1 _) | with_reducible exact Calls.later_same (cf2 _))))))
        (refine wpQuiet_nil ?_; intro _ hw'; obtain ⟨⟨w9, hb9⟩, hw''⟩ := hw'; subst hw''; try dsimp only)
        go_wp2
        go_ret
        exact ⟨ret_bool (by rw [Hok.out, Hno.out]), hb.trans (hb9.mono hsz)⟩
      · cases f1
        · have Hno := Lib.hid (okTo_not (fun h9 => by have := Hnext.out.2 h9; rw [Hst.out] at this; simp at this))
          repeat (go_big_quiet_step (((first | (go_at_call 43; with_reducible exact Calls.later (c1 _)) | (go_at_call 44; first | with_reducible exact Calls.later_same (cf1 _) | with_reducible exact Calls.later_same (cf2 _))))))
          (refine wpQuiet_nil ?_; intro _ hw'; obtain ⟨⟨w9, hb9⟩, hw''⟩ := hw'; subst hw''; try dsimp only)
          go_wp2
          go_ret
          exact ⟨ret_bool (by rw [Hok.out, Hno.out]), hb.trans (hb9.mono hsz)⟩
        · cases e0 : x.dest.isEmpty
          · cases f2
            · have Hno := Lib.hid (okTo_not (fun h9 => by have := Hnext.out.2 h9; rw [Hst.out, e0] at this; simp at this))
              repeat (go_big_quiet_step (((first | (go_at_call 43; with_reducible exact Calls.later (c1 _)) | (go_at_call 44; first | with_reducible exact Calls.later_same (cf1 _) | with_reducible exact Calls.later_same (cf2 _))))))
              (refine wpQuiet_nil ?_; intro _ hw'; obtain ⟨⟨w9, hb9⟩, hw''⟩ := hw'; subst hw''; try dsimp only)
              go_wp2
              go_ret
              exact ⟨ret_bool (by rw [Hok.out, Hno.out]), hb.trans (hb9.mono hsz)⟩
            · have Hyes := Lib.hid (Hnext.out.1 (by rw [Hst.out, e0]; rfl))
              repeat (go_big_quiet_step (((first | (go_at_call 43; with_reducible exact Calls.later (c1 _)) | (go_at_call 44; first | with_reducible exact Calls.later_same (cf1 _) | with_reducible exact Calls.later_same (cf2 _))))))
              (refine wpQuiet_nil ?_; intro _ hw'; obtain ⟨⟨w9, hb9⟩, hw''⟩ := hw'; subst hw''; try dsimp only)
              go_wp2
              go_roundw
              case rel => exact ⟨k + 1, by omega, by go_num, Hyes, hb.trans (hb9.mono hsz)⟩
              case measure => first | (simp [intOf]; done) | (simp [intOf]; omega)
          · have Hyes := Lib.hid (Hnext.out.1 (by rw [Hst.out, e0]; rfl))
            repeat (go_big_quiet_step (((first | (go_at_call 43; with_reducible exact Calls.later (c1 _)) | (go_at_call 44; first | with_reducible exact Calls.later_same (cf1 _) | with_reducible exact Calls.later_same (cf2 _))))))
            (refine wpQuiet_nil ?_; intro _ hw'; obtain ⟨⟨w9, hb9⟩, hw''⟩ := hw'; subst hw''; try dsimp only)
            go_wp2
            go_roundw
            case rel => exact ⟨k + 1, by omega, by go_num, Hyes, hb.trans (hb9.mono hsz)⟩
            case measure => first | (simp [intOf]; done) | (simp [intOf]; omega)
    · obtain rfl : k = xs.length := by omega
      have hv := okTo_end ht.out
      have Hv := Lib.hid hv
      clear hv
      by_cases h16 : xs.length ≤ 16
      all_goals
        go_wp2
        go_ret
        exact ⟨ret_bool (by rw [Hok.out, Hv.out]; simp [h16]; try omega), hb⟩

end Go.Proofs.YtmickenajhppoaaGreatDoor
