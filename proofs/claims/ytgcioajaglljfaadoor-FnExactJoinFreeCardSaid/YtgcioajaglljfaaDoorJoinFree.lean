/- Walks: JoinFree, both sides. -/
import Derived.Test.YtgcioajaglljfaaDoorHas
import Derived.Test.YtgcioajaglljfaaDoorAllPaths
import Derived.Test.YtgcioajaglljfaaDoorL6Paths
import Derived.Test.YtgcioajaglljfaaDoorTree2
import Derived.Deep.RegionHeld3
namespace Go.Proofs.YtgcioajaglljfaaDoor
open Go.RowKit

theorem trees3_parts {xs ys zs : List PFile} (h : trees3 xs ys zs = true) : treeOk xs = true ∧ treeOk ys = true ∧ treeOk zs = true := by
  unfold trees3 at h
  rw [Bool.and_eq_true, Bool.and_eq_true] at h
  exact ⟨h.1, h.2.1, h.2.2⟩

set_option maxRecDepth 100000 in
set_option maxHeartbeats 2000000 in
theorem spec_JoinFree_any (A1 A2 A3 : Option Addr) (n1 c1 n2 c2 n3 c3 : Nat) (xs ys zs : List PFile) (w : World) (lo hi lo' hi' lo'' hi'' : Nat) (h1 : Rep w lo hi (encFiles xs) (.slice A1 n1 c1)) (h2 : Rep w lo' hi' (encFiles ys) (.slice A2 n2 c2)) (h3 : Rep w lo'' hi'' (encFiles zs) (.slice A3 n3 c3))
    (hh1 : hi ≤ w.heap.size) (hh2 : hi' ≤ w.heap.size) (hh3 : hi'' ≤ w.heap.size) (ht1 : okTree xs) (ht2 : okTree ys) (ht3 : okTree zs) :
    Calls Tryd.prog 5 #[.slice A1 n1 c1, .slice A2 n2 c2, .slice A3 n3 c3] w fun e w' => e = .returned (.bool (joinFree xs ys zs)) ∧ Below w.heap.size w w' := by
  have q1 := spec_l4Ok_any A1 n1 c1 xs w lo hi h1 hh1 ht1
  have q2 := fun w' (hb : Below w.heap.size w w') => spec_l4Ok_any A2 n2 c2 ys w' lo' hi' (h2.keep hb hh2) (Nat.le_trans hh2 hb.size) ht2
  have q3 := fun w' (hb : Below w.heap.size w w') => spec_l4Ok_any A3 n3 c3 zs w' lo'' hi'' (h3.keep hb hh3) (Nat.le_trans hh3 hb.size) ht3
  obtain ⟨v, hv⟩ : ∃ v, v = joinFree xs ys zs := ⟨_, rfl⟩
  rw [← hv]
  unfold joinFree trees3 at hv
  clear ht1 ht2 ht3
  cases e1 : treeOk xs with
  | false =>
    rw [e1] at q1 hv
    have hvf : v = false := hv
    subst hvf
    clear q2 q3 e1 hv
    go_enter Tryd.func5, Tryd.ntmps5
    go_wp2_with fail
    refine Calls.mono q1 ?_
    rintro e w1 ⟨rfl, hb1⟩
    go_wp2
    go_ret
    exact ⟨rfl, hb1⟩
  | true =>
    rw [e1] at q1
    cases e2 : treeOk ys with
    | false =>
      rw [e2] at q2
      rw [e1, e2] at hv
      have hvf : v = false := hv
      subst hvf
      clear q3 e1 e2 hv
      go_enter Tryd.func5, Tryd.ntmps5
      go_wp2_with fail
      refine Calls.mono q1 ?_
      rintro e w1 ⟨rfl, hb1⟩
      go_wp2_with fail
      refine Calls.mono (q2 w1 hb1) ?_
      rintro e w2 ⟨rfl, hb2⟩
      go_wp2
      go_ret
      exact ⟨rfl, hb1.trans (hb2.mono hb1.size)⟩
    | true =>
      rw [e2] at q2
      cases e3 : treeOk zs with
      | false =>
        rw [e3] at q3
        rw [e1, e2, e3] at hv
        have hvf : v = false := hv
        subst hvf
        clear e1 e2 e3 hv
        go_enter Tryd.func5, Tryd.ntmps5
        go_wp2_with fail
        refine Calls.mono q1 ?_
        rintro e w1 ⟨rfl, hb1⟩
        go_wp2_with fail
        refine Calls.mono (q2 w1 hb1) ?_
        rintro e w2 ⟨rfl, hb2⟩
        have hb12 : Below w.heap.size w w2 := hb1.trans (hb2.mono hb1.size)
        go_wp2_with fail
        refine Calls.mono (q3 w2 hb12) ?_
        rintro e w3 ⟨rfl, hb3⟩
        go_wp2
        go_ret
        exact ⟨rfl, hb12.trans (hb3.mono hb12.size)⟩
      | true =>
        rw [e3] at q3
        rw [e1, e2, e3] at hv
        have Hv := Lib.hid (show v = (paths3 xs ys zs).all fun p => !bothAt xs ys zs p by rw [hv]; simp)
        have h8x := (treeOk_iff.1 e1).1
        have h8y := (treeOk_iff.1 e2).1
        have h8z := (treeOk_iff.1 e3).1
        have hpl := paths3_len xs ys zs
        clear hv e1 e2 e3
        go_enter Tryd.func5, Tryd.ntmps5
        go_wp2_with fail
        refine Calls.mono q1 ?_
        rintro e w1 ⟨rfl, hb1⟩
        go_wp2_with fail
        refine Calls.mono (q2 w1 hb1) ?_
        rintro e w2 ⟨rfl, hb2⟩
        have hb12 : Below w.heap.size w w2 := hb1.trans (hb2.mono hb1.size)
        go_wp2_with fail
        refine Calls.mono (q3 w2 hb12) ?_
        rintro e w3 ⟨rfl, hb3⟩
        have hb4 : Below w.heap.size w w3 := hb12.trans (hb3.mono hb12.size)
        have hs4 := hb4.size
        clear q1 q2 q3 hb1 hb2 hb12 hb3
        have hp := spec_l6Paths_any A1 A2 A3 n1 c1 n2 c2 n3 c3 xs ys zs w3 lo hi lo' hi' lo'' hi'' (h1.keep hb4 hh1) (h2.keep hb4 hh2) (h3.keep hb4 hh3) (Nat.le_trans hh1 hs4) (Nat.le_trans hh2 hs4) (Nat.le_trans hh3 hs4) h8x h8y h8z
        go_wp2_with fail
        refine Calls.mono hp ?_
        rintro e w5 ⟨Ap, np, cp, rfl, hb5, hrp⟩
        clear hp
        have hb6 : Below w.heap.size w w5 := hb4.trans (hb5.mono hs4)
        have hnp := Text.n hrp
        obtain ⟨hcp, hmp⟩ := Text.cap hrp
        obtain ⟨ps, hps⟩ : ∃ ps, ps = paths3 xs ys zs := ⟨_, rfl⟩
        rw [← hps] at hrp hnp hpl Hv
        subst hnp
        clear hps hb4 hb5 hs4
        have r1 := h1.keep hb6 hh1
        have r2 := h2.keep hb6 hh2
        have r3 := h3.keep hb6 hh3
        go_wp2
        go_loopw [8] (fun i wr => ∃ k : Nat, k ≤ ps.length ∧ i = .int .i64 k ∧ Hid ((ps.take k).all (fun p => !bothAt xs ys zs p) = true) ∧ ∃ m, wr = w5.drewN m) (fun i _ => ps.length - (intOf i).toNat)
        case atStart => exact ⟨0, Nat.zero_le _, rfl, Lib.hid (by simp), 0, rfl⟩
        case round =>
          obtain ⟨k, hk, rfl, hd, m, rfl⟩ := hrel
          by_cases hkn : k < ps.length
          · have hkn' : (k : Int) < (ps.length : Int) := by omega
            obtain ⟨bp, op, p, rfl, _, _, hpk, hcell⟩ := Text.at hrp hkn
            have Hst := Lib.hid (fun hx => all_step (p := fun p => !bothAt xs ys zs p) hpk hd.out hx)
            have Hno := Lib.hid (fun hx => all_fail (p := fun p => !bothAt xs ys zs p) hpk hx)
            clear hpk hd
            have g1 := spec_l4Get_any A1 n1 c1 xs p (w5.drewN m) lo hi (r1.drewN m)
            have g2 := spec_l4Get_any A2 n2 c2 ys p (w5.drewN m) lo' hi' (r2.drewN m)
            have g3 := spec_l4Get_any A3 n3 c3 zs p (w5.drewN m) lo'' hi'' (r3.drewN m)
            have Hbo := Lib.hid (show bothAt xs ys zs p = (!decide (getAt ys p = getAt xs p) && !decide (getAt zs p = getAt xs p)) from rfl)
            obtain ⟨o, ho⟩ : ∃ o, o = getAt xs p := ⟨_, rfl⟩
            obtain ⟨a, ha⟩ : ∃ a, a = getAt ys p := ⟨_, rfl⟩
            obtain ⟨b, hb⟩ : ∃ b, b = getAt zs p := ⟨_, rfl⟩
            rw [← ho] at g1 Hbo
            rw [← ha] at g2 Hbo
            rw [← hb] at g3 Hbo
            clear ho ha hb
            go_wp2_with fail
            refine Calls.mono g1 ?_
            rintro e w7 ⟨B1, m1, d1, rfl, rfl, s1⟩
            go_wp2_with fail
            refine Calls.mono g2 ?_
            rintro e w7 ⟨B2, m2, d2, rfl, rfl, s2⟩
            go_wp2_with fail
            refine Calls.mono g3 ?_
            rintro e w7 ⟨B3, m3, d3, rfl, rfl, s3⟩
            clear g1 g2 g3
            go_wp2_with fail
            refine Calls.mono (spec_l6Same_any B2 B1 m2 d2 m1 d1 a o _ lo' hi' lo hi s2 s1) ?_
            rintro e w7 ⟨rfl, q, hw7⟩
            rw [World.drewN_drewN] at hw7
            subst hw7
            by_cases e1 : a = o
            · have Hy := Lib.hid (Hst.out (by rw [Hbo.out]; simp [e1]))
              rw [show decide (a = o) = true by simp [e1]]
              clear e1
              go_wp2
              go_roundw
              case rel => exact ⟨k + 1, by omega, by go_num, Hy, m + q, by first | rfl | simp⟩
              case measure => simp [intOf]; omega
            · rw [show decide (a = o) = false by simp [e1]]
              have E1 := Lib.hid e1
              clear e1
              go_wp2_with fail
              refine Calls.mono (spec_l6Same_any B3 B1 m3 d3 m1 d1 b o _ lo'' hi'' lo hi (by first | exact s3.drewN q | simpa using s3.drewN q) (by first | exact s1.drewN q | simpa using s1.drewN q)) ?_
              rintro e w7 ⟨rfl, q2, hw7⟩
              rw [World.drewN_drewN] at hw7
              subst hw7
              by_cases e2 : b = o
              · have Hy := Lib.hid (Hst.out (by rw [Hbo.out]; simp [e2]))
                rw [show decide (b = o) = true by simp [e2]]
                clear e2
                go_wp2
                go_roundw
                case rel => exact ⟨k + 1, by omega, by go_num, Hy, m + q + q2, by first | rfl | simp⟩
                case measure => simp [intOf]; omega
              · have Hn := Lib.hid (Hno.out (by rw [Hbo.out]; simp [E1.out, e2]))
                rw [show decide (b = o) = false by simp [e2]]
                clear e2
                go_wp2
                go_ret
                exact ⟨ret_bool (by rw [Hv.out, Hn.out]), below_drewN hb6 _⟩
          · obtain rfl : k = ps.length := by omega
            have Hn := Lib.hid (show ps.all (fun p => !bothAt xs ys zs p) = true by have := hd.out; rwa [List.take_length] at this)
            go_wp2
            go_ret
            exact ⟨ret_bool (by rw [Hv.out, Hn.out]), below_drewN hb6 _⟩

theorem keep2 {wr W : World} {B b o : Nat} {u0 u1 : Value} (hb : Below B wr W) (hl : b < B) (h0 : wr.cell? ⟨b, o, none⟩ = some u0) (h1 : wr.cell? ⟨b, o + 1, none⟩ = some u1) :
    W.cell? ⟨b, o, none⟩ = some u0 ∧ W.cell? ⟨b, o + 1, none⟩ = some u1 :=
  ⟨(hb.cell (p := ⟨b, o, none⟩) hl).trans h0, (hb.cell (p := ⟨b, o + 1, none⟩) hl).trans h1⟩

set_option maxRecDepth 100000 in
set_option maxHeartbeats 4000000 in
theorem impl_JoinFree_any (A1 A2 A3 : Option Addr) (n1 c1 n2 c2 n3 c3 : Nat) (xs ys zs : List PFile) (w : World) (lo hi lo' hi' lo'' hi'' : Nat) (h1 : Rep w lo hi (encFiles xs) (.slice A1 n1 c1)) (h2 : Rep w lo' hi' (encFiles ys) (.slice A2 n2 c2)) (h3 : Rep w lo'' hi'' (encFiles zs) (.slice A3 n3 c3))
    (hh1 : hi ≤ w.heap.size) (hh2 : hi' ≤ w.heap.size) (hh3 : hi'' ≤ w.heap.size) (ht1 : okTree xs) (ht2 : okTree ys) (ht3 : okTree zs) :
    Calls Tryd.prog 7 #[.slice A1 n1 c1, .slice A2 n2 c2, .slice A3 n3 c3] w fun e w' => e = .returned (.bool (joinFree xs ys zs)) ∧ Below w.heap.size w w' := by
  have q1 := impl_areTrees_any A1 A2 A3 n1 c1 n2 c2 n3 c3 xs ys zs w lo hi lo' hi' lo'' hi'' h1 h2 h3 hh1 hh2 hh3 ht1 ht2 ht3
  obtain ⟨v, hv⟩ : ∃ v, v = joinFree xs ys zs := ⟨_, rfl⟩
  rw [← hv]
  unfold joinFree at hv
  clear ht1 ht2 ht3
  cases e1 : trees3 xs ys zs with
  | false =>
    rw [e1] at q1 hv
    have hvf : v = false := hv
    subst hvf
    clear e1 hv
    go_enter Tryd.func7, Tryd.ntmps7
    go_wp2_with fail
    refine Calls.mono q1 ?_
    rintro e w1 ⟨rfl, hb1⟩
    go_wp2
    go_ret
    exact ⟨rfl, hb1⟩
  | true =>
    rw [e1] at q1 hv
    have Hv := Lib.hid (show v = (paths3 xs ys zs).all fun p => !bothAt xs ys zs p by rw [hv]; simp)
    obtain ⟨t1, t2, t3⟩ := trees3_parts e1
    have h8x := (treeOk_iff.1 t1).1
    have h8y := (treeOk_iff.1 t2).1
    have h8z := (treeOk_iff.1 t3).1
    have Hx := Lib.hid (smallTree_ok t1)
    have Hy := Lib.hid (smallTree_ok t2)
    have Hz := Lib.hid (smallTree_ok t3)
    have hpl := paths3_len xs ys zs
    clear hv e1 t1 t2 t3
    go_enter Tryd.func7, Tryd.ntmps7
    go_wp2_with fail
    refine Calls.mono q1 ?_
    rintro e w1 ⟨rfl, hb1⟩
    have hs1 := hb1.size
    clear q1
    have hbo : Below w1.heap.size w1 (w1.alloc (.cells #[.slice A1 n1 c1, .slice A2 n2 c2, .slice A3 n3 c3] 25)) := (Below.refl _ _).alloc (Nat.le_refl _) _
    have hbo' := hb1.trans (hbo.mono hs1)
    have hap := impl_allPaths_any w1.heap.size 3 A1 A2 A3 n1 c1 n2 c2 n3 c3 xs ys zs (w1.alloc (.cells #[.slice A1 n1 c1, .slice A2 n2 c2, .slice A3 n3 c3] 25)) lo hi lo' hi' lo'' hi'' (h1.keep hbo' hh1) (h2.keep hbo' hh2) (h3.keep hbo' hh3) (Nat.le_trans hh1 hbo'.size) (Nat.le_trans hh2 hbo'.size) (Nat.le_trans hh3 hbo'.size) h8x h8y h8z (by simp [go_sem]) (by simp [go_sem]) (by simp [go_sem])
    go_wp2_with fail
    refine Calls.mono hap ?_
    rintro e w5 ⟨Ap, np, cp, rfl, hb5, hfp⟩
    clear hap
    have hb6 : Below w.heap.size w w5 := hbo'.trans (hb5.mono hbo'.size)
    have hrp : Rep w5 w.heap.size w5.heap.size (encText (paths3 xs ys zs)) (.slice Ap np cp) := (hfp.mono hbo'.size (Nat.le_refl _)).rep
    have hnp := Text.n hrp
    obtain ⟨hcp, hmp⟩ := Text.cap hrp
    obtain ⟨ps, hps⟩ : ∃ ps, ps = paths3 xs ys zs := ⟨_, rfl⟩
    rw [← hps] at hrp hnp hpl Hv
    subst hnp
    have hs6 := hb6.size
    clear hps hb5 hbo hbo' hfp hb1 hs1
    have r1 := h1.keep hb6 hh1
    have r2 := h2.keep hb6 hh2
    have r3 := h3.keep hb6 hh3
    have hi1 : hi ≤ w5.heap.size := by omega
    have hi2 : hi' ≤ w5.heap.size := by omega
    have hi3 : hi'' ≤ w5.heap.size := by omega
    clear h1 h2 h3
    go_wp2
    go_loopw [21] (fun i wr => ∃ k : Nat, k ≤ ps.length ∧ i = .int .i64 k ∧ Hid ((ps.take k).all (fun p => !bothAt xs ys zs p) = true) ∧ Below w5.heap.size w5 wr) (fun i _ => ps.length - (intOf i).toNat)
    case atStart => exact ⟨0, Nat.zero_le _, rfl, Lib.hid (by simp), Below.refl _ _⟩
    case round =>
      obtain ⟨k, hk, rfl, hd, hb⟩ := hrel
      have hsz := hb.size
      obtain ⟨wo, rfl⟩ : ∃ wo : World, wo = wr := ⟨_, rfl⟩
      by_cases hkn : k < ps.length
      · have hkn' : (k : Int) < (ps.length : Int) := by omega
        obtain ⟨bp, op, p, rfl, _, _, hpk, hcell⟩ := Text.at (hrp.keep hb (Nat.le_refl _)) hkn
        have Hst := Lib.hid (fun hx => all_step (p := fun p => !bothAt xs ys zs p) hpk hd.out hx)
        have Hno := Lib.hid (fun hx => all_fail (p := fun p => !bothAt xs ys zs p) hpk hx)
        clear hpk hd
        have g1 := impl_hasAt_any A1 n1 c1 xs p wo lo hi (r1.keep hb hi1) (Nat.le_trans hi1 hsz) Hx.out
        have g2 := fun w' (h9 : Below wo.heap.size wo w') => impl_hasAt_any A2 n2 c2 ys p w' lo' hi' ((r2.keep hb hi2).keep h9 (Nat.le_trans hi2 hsz)) (Nat.le_trans hi2 (Nat.le_trans hsz h9.size)) Hy.out
        have g3 := fun w' (h9 : Below wo.heap.size wo w') => impl_hasAt_any A3 n3 c3 zs p w' lo'' hi'' ((r3.keep hb hi3).keep h9 (Nat.le_trans hi3 hsz)) (Nat.le_trans hi3 (Nat.le_trans hsz h9.size)) Hz.out
        have Hbo := Lib.hid (show bothAt xs ys zs p = (!decide (getAt ys p = getAt xs p) && !decide (getAt zs p = getAt xs p)) from rfl)
        obtain ⟨o, ho⟩ : ∃ o, o = getAt xs p := ⟨_, rfl⟩
        obtain ⟨a, ha⟩ : ∃ a, a = getAt ys p := ⟨_, rfl⟩
        obtain ⟨b, hb9⟩ : ∃ b, b = getAt zs p := ⟨_, rfl⟩
        rw [← ho] at g1 Hbo
        rw [← ha] at g2 Hbo
        rw [← hb9] at g3 Hbo
        clear ho ha hb9
        go_wp2_with fail
        refine Calls.mono g1 ?_
        rintro e w7 ⟨B1, m1, d1, rfl, hb7, hf7⟩
        clear g1
        have hs7 := hb7.size
        obtain ⟨W, hW⟩ : ∃ W : World, W = w7.alloc (.cells #[.slice B1 m1 d1, .bool o.isSome] 42) := ⟨_, rfl⟩
        have hWb : Below w7.heap.size w7 W := by rw [hW]; exact (Below.refl _ _).alloc (Nat.le_refl _) _
        have hoW : Below wo.heap.size wo W := hb7.trans (hWb.mono hs7)
        have s0 : W.cell? ⟨w7.heap.size, 0, none⟩ = some (.slice B1 m1 d1) := by rw [hW]; simp [go_sem]
        have s1 : W.cell? ⟨w7.heap.size, 1, none⟩ = some (.bool o.isSome) := by rw [hW]; simp [go_sem]
        have hgW : w7.heap.size < W.heap.size := by rw [hW]; simp
        have ro : Rep W wo.heap.size W.heap.size (encText (o.getD [])) (.slice B1 m1 d1) := (hf7.rep.keep hWb (Nat.le_refl _)).mono (Nat.le_refl _) hWb.size
        obtain ⟨k1, hk1⟩ : ∃ k1, k1 = decide (a = o) := ⟨_, rfl⟩
        obtain ⟨k2, hk2⟩ : ∃ k2, k2 = decide (b = o) := ⟨_, rfl⟩
        have hsm1 := fun A n c lo9 hi9 w' h9 hh9 h8 hh8 => impl_same_any A B1 n c m1 d1 a o w' lo9 hi9 wo.heap.size W.heap.size h9 h8 hh9 hh8
        have hsm2 := fun A n c lo9 hi9 w' h9 hh9 h8 hh8 => impl_same_any A B1 n c m1 d1 b o w' lo9 hi9 wo.heap.size W.heap.size h9 h8 hh9 hh8
        rw [← hk1] at hsm1 Hbo
        rw [← hk2] at hsm2 Hbo
        clear hk1 hk2 hf7
        have Hret := Lib.hid hb6
        clear hb6
        go_upto_region 7 with fail
        rw [← hW]
        clear hW hWb
        cases k1 with
        | true =>
          have Hy2 := Lib.hid (Hst.out (by rw [Hbo.out]; rfl))
          refine wp_region_held_drew (S := fun w' => w'.cell? ⟨w7.heap.size, 0, none⟩ = some (.slice B1 m1 d1) ∧ w'.cell? ⟨w7.heap.size, 1, none⟩ = some (.bool o.isSome)) (by kernel_rfl) ⟨s0, s1⟩ (fun hHeld => ?_)
          refine wpAnyH_take (i := 0) (oi := { dst := some 28, op := Op.move (Operand.tmp 1), type := 25, pos := "l6_join.go:109", after := #[], guard := none }) (v := ?_) rfl (by kernel_rfl) (by kernel_rfl) (by kernel_rfl) (fun _ _ _ h => h) (Or.inl ⟨by rfl, ?_⟩) (by assumption) ?_
          rotate_left
          · intro w hSw; (try dsimp only at hSw); go_simp; (try with_reducible rfl)
          (try simp only [Act.put, List.setIfInBounds_toArray, List.set_cons_zero, List.set_cons_succ])
          refine wpAnyH_take (i := 1) (oi := { dst := some 29, op := Op.move (Operand.tmp 8), type := 9, pos := "l6_join.go:109", after := #[], guard := none }) (v := ?_) rfl (by kernel_rfl) (by kernel_rfl) (by kernel_rfl) (fun _ _ _ h => h) (Or.inl ⟨by rfl, ?_⟩) (by assumption) ?_
          rotate_left
          · intro w hSw; (try dsimp only at hSw); go_simp; (try with_reducible rfl)
          (try simp only [Act.put, List.setIfInBounds_toArray, List.set_cons_zero, List.set_cons_succ])
          refine wpAnyH_take (i := 3) (oi := { dst := some 31, op := Op.load 42 (Operand.tmp 9), type := 42, pos := "l6_join.go:109", after := #[], guard := none }) (v := ?_) rfl (by kernel_rfl) (by kernel_rfl) (by kernel_rfl) (fun _ _ _ h => h) (Or.inl ⟨by rfl, ?_⟩) (by assumption) ?_
          rotate_left
          · intro w hSw; (try dsimp only at hSw); go_simp; (try with_reducible rfl)
          (try simp only [Act.put, List.setIfInBounds_toArray, List.set_cons_zero, List.set_cons_succ])
          refine wpAnyH_ready (rs := [2]) (by kernel_rfl) (by simp) ?_
          refine AllReadyH.cons (o := { dst := some 30, op := Op.call { callee := Callee.value (Operand.func 17), args := #[Operand.tmp 28, Operand.tmp 29], argTypes := #[25, 9] }, type := 42, pos := "l6_join.go:109", after := #[{ on := 0, ground := Ground.data }, { on := 1, ground := Ground.data }], guard := none }) rfl (fun K hK => ?_) AllReadyH.nil
          go_simp
          go_at_call 17
          refine (g2 W.drew (Below.drew hoW)).mono ?_
          rintro e w8 ⟨B2, m2, d2, rfl, hb8, hf8⟩
          have hb8' : Below W.heap.size W w8 := ⟨hb8.os, hb8.tape, hb8.output, hb8.size, hb8.block⟩
          obtain ⟨cw0, cw1⟩ := keep2 (o := 0) hb8' hgW s0 s1
          go_wp2_with fail
          refine hK.out _ _ ⟨cw0, cw1⟩ (fun hHeld => ?_)
          clear hK K
          (try simp only [Act.put, List.setIfInBounds_toArray, List.set_cons_zero, List.set_cons_succ])
          refine wpAnyH_ready (rs := [4]) (by kernel_rfl) (by simp) ?_
          refine AllReadyH.cons (o := { dst := some 32, op := Op.call { callee := Callee.value (Operand.func 18), args := #[Operand.tmp 30, Operand.tmp 31], argTypes := #[42, 42] }, type := 4, pos := "l6_join.go:109", after := #[{ on := 2, ground := Ground.data }, { on := 3, ground := Ground.data }, { on := 2, ground := Ground.chain }], guard := none }) rfl (fun K hK => ?_) AllReadyH.nil
          go_simp
          go_at_call 18
          refine (hsm1 B2 m2 d2 W.heap.size w8.heap.size w8 hf8.rep (Nat.le_refl _) (ro.same (.of_below hb8' (Nat.le_refl _))) hb8'.size).mono ?_
          rintro e w9 ⟨rfl, hb9⟩
          obtain ⟨cy0, cy1⟩ := keep2 (o := 0) hb9 (Nat.lt_of_lt_of_le hgW hb8'.size) cw0 cw1
          go_wp2_with fail
          refine hK.out _ _ ⟨cy0, cy1⟩ (fun hHeld => ?_)
          clear hK K
          (try simp only [Act.put, List.setIfInBounds_toArray, List.set_cons_zero, List.set_cons_succ])
          refine wpAnyH_take (i := 5) (oi := { dst := some 33, op := Op.unOp UnOp.not 4 (Operand.tmp 32), type := 4, pos := "l6_join.go:109", after := #[{ on := 4, ground := Ground.data }], guard := none }) (v := ?_) rfl (by kernel_rfl) (by kernel_rfl) (by kernel_rfl) (fun _ _ _ h => h) (Or.inl ⟨by rfl, ?_⟩) (by assumption) ?_
          rotate_left
          · intro w hSw; (try dsimp only at hSw); go_simp; (try with_reducible rfl)
          (try simp only [Act.put, List.setIfInBounds_toArray, List.set_cons_zero, List.set_cons_succ])
          refine wpAnyH_take (i := 6) (oi := { dst := some 34, op := Op.move (Operand.tmp 33), type := 4, pos := "l6_join.go:109", after := #[{ on := 5, ground := Ground.data }, { on := 4, ground := Ground.chain }], guard := none }) (v := ?_) rfl (by kernel_rfl) (by kernel_rfl) (by kernel_rfl) (fun _ _ _ h => h) (Or.inl ⟨by rfl, ?_⟩) (by assumption) ?_
          rotate_left
          · intro w hSw; (try dsimp only at hSw); go_simp; (try with_reducible rfl)
          (try simp only [Act.put, List.setIfInBounds_toArray, List.set_cons_zero, List.set_cons_succ])
          refine wpAnyH_take (i := 7) (oi := { dst := some 35, op := Op.move (Operand.tmp 2), type := 25, pos := "l6_join.go:109", after := #[{ on := 6, ground := Ground.guard }], guard := some (6, true) }) (v := undef) rfl (by kernel_rfl) (by kernel_rfl) (by kernel_rfl) (fun _ _ _ h => h) (Or.inr ⟨by rfl, rfl⟩) (by assumption) ?_
          (try simp only [Act.put, List.setIfInBounds_toArray, List.set_cons_zero, List.set_cons_succ])
          refine wpAnyH_take (i := 8) (oi := { dst := some 36, op := Op.move (Operand.tmp 8), type := 9, pos := "l6_join.go:109", after := #[{ on := 6, ground := Ground.guard }], guard := some (6, true) }) (v := undef) rfl (by kernel_rfl) (by kernel_rfl) (by kernel_rfl) (fun _ _ _ h => h) (Or.inr ⟨by rfl, rfl⟩) (by assumption) ?_
          (try simp only [Act.put, List.setIfInBounds_toArray, List.set_cons_zero, List.set_cons_succ])
          refine wpAnyH_take (i := 9) (oi := { dst := some 37, op := Op.call { callee := Callee.value (Operand.func 17), args := #[Operand.tmp 35, Operand.tmp 36], argTypes := #[25, 9] }, type := 42, pos := "l6_join.go:109", after := #[{ on := 7, ground := Ground.data }, { on := 8, ground := Ground.data }, { on := 6, ground := Ground.chain }, { on := 6, ground := Ground.guard }], guard := some (6, true) }) (v := undef) rfl (by kernel_rfl) (by kernel_rfl) (by kernel_rfl) (fun _ _ _ h => h) (Or.inr ⟨by rfl, rfl⟩) (by assumption) ?_
          (try simp only [Act.put, List.setIfInBounds_toArray, List.set_cons_zero, List.set_cons_succ])
          refine wpAnyH_take (i := 10) (oi := { dst := some 38, op := Op.load 42 (Operand.tmp 9), type := 42, pos := "l6_join.go:109", after := #[{ on := 6, ground := Ground.guard }], guard := some (6, true) }) (v := undef) rfl (by kernel_rfl) (by kernel_rfl) (by kernel_rfl) (fun _ _ _ h => h) (Or.inr ⟨by rfl, rfl⟩) (by assumption) ?_
          (try simp only [Act.put, List.setIfInBounds_toArray, List.set_cons_zero, List.set_cons_succ])
          refine wpAnyH_take (i := 11) (oi := { dst := some 39, op := Op.call { callee := Callee.value (Operand.func 18), args := #[Operand.tmp 37, Operand.tmp 38], argTypes := #[42, 42] }, type := 4, pos := "l6_join.go:109", after := #[{ on := 9, ground := Ground.data }, { on := 10, ground := Ground.data }, { on := 9, ground := Ground.chain }, { on := 6, ground := Ground.guard }], guard := some (6, true) }) (v := undef) rfl (by kernel_rfl) (by kernel_rfl) (by kernel_rfl) (fun _ _ _ h => h) (Or.inr ⟨by rfl, rfl⟩) (by assumption) ?_
          (try simp only [Act.put, List.setIfInBounds_toArray, List.set_cons_zero, List.set_cons_succ])
          refine wpAnyH_take (i := 12) (oi := { dst := some 40, op := Op.unOp UnOp.not 4 (Operand.tmp 39), type := 4, pos := "l6_join.go:109", after := #[{ on := 11, ground := Ground.data }, { on := 6, ground := Ground.guard }], guard := some (6, true) }) (v := undef) rfl (by kernel_rfl) (by kernel_rfl) (by kernel_rfl) (fun _ _ _ h => h) (Or.inr ⟨by rfl, rfl⟩) (by assumption) ?_
          (try simp only [Act.put, List.setIfInBounds_toArray, List.set_cons_zero, List.set_cons_succ])
          refine wpAnyH_take (i := 13) (oi := { dst := some 41, op := Op.pick (Operand.tmp 34) (Operand.tmp 40) (Operand.const (Value.bool false)), type := 4, pos := "l6_join.go:109", after := #[{ on := 6, ground := Ground.data }, { on := 12, ground := Ground.data }], guard := none }) (v := ?_) rfl (by kernel_rfl) (by kernel_rfl) (by kernel_rfl) (fun _ _ _ h => h) (Or.inl ⟨by rfl, ?_⟩) (by assumption) ?_
          rotate_left
          · intro w hSw; (try dsimp only at hSw); go_simp; (try with_reducible rfl)
          (try simp only [Act.put, List.setIfInBounds_toArray, List.set_cons_zero, List.set_cons_succ])
          refine wpAnyH_done (by kernel_rfl) ?_ _
          have hfin : Below w5.heap.size w5 w9 := hb.trans (((hoW.trans (hb8'.mono hoW.size)).trans (hb9.mono (Nat.le_trans hoW.size hb8'.size))).mono hsz)
          clear hf8 hb8 hb8' hb9 cw0 cw1 cy0 cy1
          go_wp2
          go_roundw
          case rel => exact ⟨k + 1, by omega, by go_num, Hy2, hfin⟩
          case measure => first | (simp [intOf]; done) | (simp [intOf]; omega)
        | false =>
          cases k2 with
          | true =>
            have Hy2 := Lib.hid (Hst.out (by rw [Hbo.out]; rfl))
            go_region_held3 (fun w' => w'.cell? ⟨w7.heap.size, 0, none⟩ = some (.slice B1 m1 d1) ∧ w'.cell? ⟨w7.heap.size, 1, none⟩ = some (.bool o.isSome)) (first | (with_reducible trivial) | (with_reducible exact ⟨s0, s1⟩) | (with_reducible exact ⟨cw0, cw1⟩) | (with_reducible exact ⟨cy0, cy1⟩) | (with_reducible exact ⟨cz0, cz1⟩) | (with_reducible exact ⟨cv0, cv1⟩) | go_keep) (first
              | (go_at_call 18; refine (hsm2 B3 m3 d3 w9.heap.size w10.heap.size w10 hf10.rep (Nat.le_refl _) (ro.same (.of_below hb10' (Nat.le_refl _))) hb10'.size).mono ?_
                 rintro e w11 ⟨rfl, hb11⟩
                 have hb11' : Below W.heap.size W w11 := hb10'.trans (hb11.mono hb10'.size)
                 obtain ⟨cv0, cv1⟩ := keep2 (o := 0) hb11' hgW s0 s1)
              | (go_at_call 17; refine (g3 w9 (hoW.trans (hb9'.mono hoW.size))).mono ?_
                 rintro e w10 ⟨B3, m3, d3, rfl, hb10, hf10⟩
                 have hb10' : Below W.heap.size W w10 := hb9'.trans (hb10.mono hb9'.size)
                 obtain ⟨cz0, cz1⟩ := keep2 (o := 0) hb10' hgW s0 s1)
              | (go_at_call 18; refine (hsm1 B2 m2 d2 W.heap.size w8.heap.size w8 hf8.rep (Nat.le_refl _) (ro.same (.of_below hb8' (Nat.le_refl _))) hb8'.size).mono ?_
                 rintro e w9 ⟨rfl, hb9⟩
                 have hb9' : Below W.heap.size W w9 := hb8'.trans (hb9.mono hb8'.size)
                 obtain ⟨cy0, cy1⟩ := keep2 (o := 0) hb9' hgW s0 s1)
              | (go_at_call 17; refine (g2 W.drew (Below.drew hoW)).mono ?_
                 rintro e w8 ⟨B2, m2, d2, rfl, hb8, hf8⟩
                 have hb8' : Below W.heap.size W w8 := ⟨hb8.os, hb8.tape, hb8.output, hb8.size, hb8.block⟩
                 obtain ⟨cw0, cw1⟩ := keep2 (o := 0) hb8' hgW s0 s1))
            have hfin : Below w5.heap.size w5 w11 := hb.trans ((hoW.trans (hb11'.mono hoW.size)).mono hsz)
            clear hf8 hb8 hb8' hb9 hb9' hb10 hb10' hb11 hb11' hf10 cw0 cw1 cy0 cy1 cz0 cz1 cv0 cv1
            go_wp2
            go_roundw
            case rel => exact ⟨k + 1, by omega, by go_num, Hy2, hfin⟩
            case measure => first | (simp [intOf]; done) | (simp [intOf]; omega)
          | false =>
            have Hn2 := Lib.hid (Hno.out (by rw [Hbo.out]; rfl))
            go_region_held3 (fun w' => w'.cell? ⟨w7.heap.size, 0, none⟩ = some (.slice B1 m1 d1) ∧ w'.cell? ⟨w7.heap.size, 1, none⟩ = some (.bool o.isSome)) (first | (with_reducible trivial) | (with_reducible exact ⟨s0, s1⟩) | (with_reducible exact ⟨cw0, cw1⟩) | (with_reducible exact ⟨cy0, cy1⟩) | (with_reducible exact ⟨cz0, cz1⟩) | (with_reducible exact ⟨cv0, cv1⟩) | go_keep) (first
              | (go_at_call 18; refine (hsm2 B3 m3 d3 w9.heap.size w10.heap.size w10 hf10.rep (Nat.le_refl _) (ro.same (.of_below hb10' (Nat.le_refl _))) hb10'.size).mono ?_
                 rintro e w11 ⟨rfl, hb11⟩
                 have hb11' : Below W.heap.size W w11 := hb10'.trans (hb11.mono hb10'.size)
                 obtain ⟨cv0, cv1⟩ := keep2 (o := 0) hb11' hgW s0 s1)
              | (go_at_call 17; refine (g3 w9 (hoW.trans (hb9'.mono hoW.size))).mono ?_
                 rintro e w10 ⟨B3, m3, d3, rfl, hb10, hf10⟩
                 have hb10' : Below W.heap.size W w10 := hb9'.trans (hb10.mono hb9'.size)
                 obtain ⟨cz0, cz1⟩ := keep2 (o := 0) hb10' hgW s0 s1)
              | (go_at_call 18; refine (hsm1 B2 m2 d2 W.heap.size w8.heap.size w8 hf8.rep (Nat.le_refl _) (ro.same (.of_below hb8' (Nat.le_refl _))) hb8'.size).mono ?_
                 rintro e w9 ⟨rfl, hb9⟩
                 have hb9' : Below W.heap.size W w9 := hb8'.trans (hb9.mono hb8'.size)
                 obtain ⟨cy0, cy1⟩ := keep2 (o := 0) hb9' hgW s0 s1)
              | (go_at_call 17; refine (g2 W.drew (Below.drew hoW)).mono ?_
                 rintro e w8 ⟨B2, m2, d2, rfl, hb8, hf8⟩
                 have hb8' : Below W.heap.size W w8 := ⟨hb8.os, hb8.tape, hb8.output, hb8.size, hb8.block⟩
                 obtain ⟨cw0, cw1⟩ := keep2 (o := 0) hb8' hgW s0 s1))
            have hfin : Below w5.heap.size w5 w11 := hb.trans ((hoW.trans (hb11'.mono hoW.size)).mono hsz)
            clear hf8 hb8 hb8' hb9 hb9' hb10 hb10' hb11 hb11' hf10 cw0 cw1 cy0 cy1 cz0 cz1 cv0 cv1
            go_wp2
            go_ret
            exact ⟨ret_bool (by rw [Hv.out, Hn2.out]), Hret.out.trans (hfin.mono hs6)⟩
      · obtain rfl : k = ps.length := by omega
        have Hn := Lib.hid (show ps.all (fun p => !bothAt xs ys zs p) = true by have := hd.out; rwa [List.take_length] at this)
        go_wp2
        go_ret
        exact ⟨ret_bool (by rw [Hv.out, Hn.out]), hb6.trans (hb.mono hs6)⟩
end Go.Proofs.YtgcioajaglljfaaDoor
