/- Several of my texts in one: SpecJoin, SpecJoinOf. -/
import Derived.Test.YtenkceeicmfjhaaGreatDoorJoinAtPlain
import Derived.Test.YtenkceeicmfjhaaGreatDoorHas
import Derived.Test.YtenkceeicmfjhaaGreatDoorZ33
import Derived.Test.YtenkceeicmfjhaaGreatDoorZ23
import Derived.Test.YtenkceeicmfjhaaGreatDoorSpecMerge
import Derived.Test.YtenkceeicmfjhaaGreatDoorZ11
import Derived.OwnWalk
import Derived.Deep.RegionHeld3
import Derived.Test.YtenkceeicmfjhaaGreatDoorZ29
import Derived.Test.YtenkceeicmfjhaaGreatDoorZ25
/- Walks: what becomes of trees: the reference's l6One and l6Of. Printed by wip/mk_specjoin.py. -/
namespace Go.Proofs.YtenkceeicmfjhaaGreatDoor
open Go.RowKit

theorem Tryz.infoClash : (Tryz.prog.info? 79).map (fun i => (i.zero, i.size, i.bytes)) = some (some (.agg #[.string ⟨#[]⟩, .int .i64 0]), 2, 24) := by kernel_rfl
theorem Files.snoc (e : Nat) (done : List PFile) (c : PFile) : PV.sl e 2 (done.flatMap cFiles ++ cFiles c) = encFilesE e (done ++ [c]) := by simp [encFilesE]
theorem Clashs.snoc (e : Nat) (done : List PClash) (c : PClash) : PV.sl e 2 (done.flatMap cClashs ++ cClashs c) = encClashsE e (done ++ [c]) := by simp [encClashsE]
theorem FreshL.kept {w w' : World} {lo hi B : Nat} {ps : List PV} {us : List Value} (h : FreshL w lo hi ps us) (hb : Below B w w') (hh : hi ≤ B) : FreshL w' lo hi ps us := h.same (.of_below hb hh)
theorem FreshL.swap2 {w : World} {lo hi : Nat} {p q : PV} {u v : Value} (h : FreshL w lo hi [p, q] [u, v]) : FreshL w lo hi [q, p] [v, u] := h.swap
theorem textOk_small {t : List Str} (ht : textOk t = true) : ∀ s ∈ t, s.length ≤ 9223372036854775807 := by
  intro s hs
  have h1 : lineOk s = true := by
    unfold textOk at ht
    rw [Bool.and_eq_true, List.all_eq_true] at ht
    exact ht.2 s hs
  unfold lineOk at h1
  rw [Bool.and_eq_true, decide_eq_true_eq] at h1
  omega
theorem joinAt_kind (o a b : Option (List Str)) : (joinAt o a b).2 = 0 ∨ 0 < (joinAt o a b).2 := by
  unfold joinAt
  repeat' split
  all_goals simp

set_option maxRecDepth 100000 in
set_option maxHeartbeats 4000000 in
theorem spec_l6One_any (A1 A2 A3 : Option Addr) (n1 c1 n2 c2 n3 c3 : Nat) (xs ys zs : List PFile) (p : Str) (w : World) (lo hi lo' hi' lo'' hi'' : Nat) (h1 : Rep w lo hi (encFiles xs) (.slice A1 n1 c1)) (h2 : Rep w lo' hi' (encFiles ys) (.slice A2 n2 c2)) (h3 : Rep w lo'' hi'' (encFiles zs) (.slice A3 n3 c3)) (B : Nat) (hh1 : hi ≤ B) (hh2 : hi' ≤ B) (hh3 : hi'' ≤ B) (hB : B ≤ w.heap.size) (t1 : treeOk xs = true) (t2 : treeOk ys = true) (t3 : treeOk zs = true) :
    Calls Tryz.prog 57 #[.slice A1 n1 c1, .slice A2 n2 c2, .slice A3 n3 c3, .string ⟨p.toArray⟩] w fun e w' => ∃ A n c, e = .returned (.tuple #[.slice A n c, .bool (joinHere xs ys zs p).1.isSome, .int .i64 (joinHere xs ys zs p).2]) ∧ Below w.heap.size w w' ∧
      (Rep w' 0 B (encText ((joinHere xs ys zs p).1.getD [])) (.slice A n c) ∨ Rep w' w.heap.size w'.heap.size (encText ((joinHere xs ys zs p).1.getD [])) (.slice A n c)) := by
  have g1 := spec_l4Get_any A1 n1 c1 xs p w lo hi h1
  have g2 := spec_l4Get_any A2 n2 c2 ys p w lo' hi' h2
  have g3 := spec_l4Get_any A3 n3 c3 zs p w lo'' hi'' h3
  have hto := fun x => treeText t1 (p := p) (x := x)
  have hta := fun x => treeText t2 (p := p) (x := x)
  have htb := fun x => treeText t3 (p := p) (x := x)
  unfold joinHere
  obtain ⟨o, ho⟩ : ∃ o, o = getAt xs p := ⟨_, rfl⟩
  obtain ⟨a, ha⟩ : ∃ a, a = getAt ys p := ⟨_, rfl⟩
  obtain ⟨b, hb9⟩ : ∃ b, b = getAt zs p := ⟨_, rfl⟩
  rw [← ho] at g1 hto ⊢
  rw [← ha] at g2 hta ⊢
  rw [← hb9] at g3 htb ⊢
  have Hto := Lib.hid hto
  have Hta := Lib.hid hta
  have Htb := Lib.hid htb
  clear ho ha hb9 t1 t2 t3 hto hta htb h1 h2 h3
  go_enter Tryz.func57, Tryz.ntmps57
  go_wp2_with fail
  refine Calls.mono g1 ?_
  rintro e w7 ⟨B1, m1, d1, rfl, rfl, s1⟩
  go_wp2_with fail
  refine Calls.mono g2 ?_
  rintro e w7 ⟨B2, m2, d2, rfl, rfl, s2⟩
  go_wp2_with fail
  refine Calls.mono g3 ?_
  rintro e w7 ⟨B3, m3, d3, rfl, rfl, s3⟩
  clear g1 g2 g3
  have r1 := s1.mono (lo' := 0) (hi' := B) (Nat.zero_le _) hh1
  have r2 := s2.mono (lo' := 0) (hi' := B) (Nat.zero_le _) hh2
  have r3 := s3.mono (lo' := 0) (hi' := B) (Nat.zero_le _) hh3
  clear s1 s2 s3
  have hsame := fun o1 o2 A B' n c m d k (q1 : Rep w 0 B (encText ((o1 : Option (List Str)).getD [])) (.slice A n c)) (q2 : Rep w 0 B (encText ((o2 : Option (List Str)).getD [])) (.slice B' m d)) => spec_l6Same_any A B' n c m d o1 o2 (w.drewN k) 0 B 0 B (q1.drewN k) (q2.drewN k)
  have hS1 := spec_l6Same_any B2 B1 m2 d2 m1 d1 a o w 0 B 0 B r2 r1
  by_cases e1 : a = o
  · rw [show decide (a = o) = true by simp [e1]] at hS1
    have Hj := Lib.hid (joinAt_1 (b := b) e1)
    clear e1
    go_wp2_with fail
    refine Calls.mono hS1 ?_
    rintro e w5 ⟨rfl, q, rfl⟩
    go_wp2
    go_ret3
    rw [Hj.out]
    exact ⟨B3, m3, d3, rfl, below_drewN (Below.refl _ _) _, .inl (r3.drewN q)⟩
  · rw [show decide (a = o) = false by simp [e1]] at hS1
    have E1 := Lib.hid e1
    clear e1
    go_wp2_with fail
    refine Calls.mono hS1 ?_
    rintro e w5 ⟨rfl, q, rfl⟩
    have hS2 := hsame a b B2 B3 m2 d2 m3 d3 q r2 r3
    by_cases e2 : a = b
    · rw [show decide (a = b) = true by simp [e2]] at hS2
      have Hj := Lib.hid (joinAt_2 E1.out e2)
      clear e2
      go_wp2_with fail
      refine Calls.mono hS2 ?_
      rintro e w5 ⟨rfl, q2, rfl⟩
      go_wp2
      go_ret3
      rw [Hj.out]
      exact ⟨B3, m3, d3, rfl, below_drewN (Below.refl _ _) _, .inl (r3.drewN _)⟩
    · rw [show decide (a = b) = false by simp [e2]] at hS2
      have E2 := Lib.hid e2
      clear e2
      go_wp2_with fail
      refine Calls.mono hS2 ?_
      rintro e w5 ⟨rfl, q2, hw5⟩
      rw [World.drewN_drewN] at hw5
      subst hw5
      have hS3 := hsame b o B3 B1 m3 d3 m1 d1 (q + q2) r3 r1
      by_cases e3 : b = o
      · rw [show decide (b = o) = true by simp [e3]] at hS3
        have Hj := Lib.hid (joinAt_3 E1.out E2.out e3)
        clear e3
        go_wp2_with fail
        refine Calls.mono hS3 ?_
        rintro e w5 ⟨rfl, q3, rfl⟩
        go_wp2
        go_ret3
        rw [Hj.out]
        exact ⟨B2, m2, d2, rfl, below_drewN (Below.refl _ _) _, .inl (r2.drewN _)⟩
      · rw [show decide (b = o) = false by simp [e3]] at hS3
        have E3 := Lib.hid e3
        clear e3
        go_wp2_with fail
        refine Calls.mono hS3 ?_
        rintro e w5 ⟨rfl, q3, hw5⟩
        rw [World.drewN_drewN] at hw5
        subst hw5
        clear hS1 hS2 hS3 hsame
        obtain ⟨q9, hq9⟩ : ∃ q9, q9 = q + q2 + q3 := ⟨_, rfl⟩
        rw [← hq9]
        clear hq9
        cases a with
        | none =>
          have Hj := Lib.hid (joinAt_4 E1.out E2.out E3.out (.inl rfl))
          simp only [Option.isSome_none]
          go_wp2
          go_ret3
          rw [Hj.out]
          exact ⟨B1, m1, d1, rfl, below_drewN (Below.refl _ _) _, .inl (r1.drewN _)⟩
        | some ta =>
          cases b with
          | none =>
            have Hj := Lib.hid (joinAt_4 E1.out E2.out E3.out (.inr rfl))
            simp only [Option.isSome_none, Option.isSome_some]
            go_wp2
            go_ret3
            rw [Hj.out]
            exact ⟨B1, m1, d1, rfl, below_drewN (Below.refl _ _) _, .inl (r1.drewN _)⟩
          | some tb =>
            cases o with
            | none =>
              have Hj := Lib.hid (joinAt_5 E2.out)
              simp only [Option.isSome_none, Option.isSome_some]
              go_wp2
              go_ret3
              rw [Hj.out]
              exact ⟨none, 0, 0, rfl, below_drewN (Below.refl _ _) _, .inl (Fresh.nil _ 0 B _ _).rep⟩
            | some to =>
              have Hj := Lib.hid (joinAt_6 E1.out E2.out E3.out)
              have ko := Hto.out to rfl
              have ka := Hta.out ta rfl
              have kb := Htb.out tb rfl
              have Hmy := Lib.hid (show mergeText to ta tb = joinOk noRes (mergeOf to ta tb) from mergedOf_yes (by unfold mergeOk; rw [ko, ka, kb]; rfl))
              have l1 := textOk_len ko
              have l2 := textOk_len ka
              have l3 := textOk_len kb
              have hfew := mergeOf_few l1 l2 l3
              have hsml : ∀ p ∈ mergeOf to ta tb, ∀ s ∈ p.lines, s.length ≤ 9223372036854775807 := merge_small (textOk_small ko) (textOk_small ka) (textOk_small kb) _ _ _ _ _ _ [] (fun p hp => by cases hp)
              have hof := spec_l3Of_any B1 B2 B3 m1 d1 m2 d2 m3 d3 to ta tb (w.drewN q9) ((r1.drewN q9).mono (Nat.zero_le _) hB) ((r2.drewN q9).mono (Nat.zero_le _) hB) ((r3.drewN q9).mono (Nat.zero_le _) hB) l1 l2 l3
              have Hfew := Lib.hid hfew
              have Hsml := Lib.hid hsml
              clear hfew hsml ko ka kb
              simp only [Option.isSome_some]
              go_wp2_with fail
              refine Calls.mono hof ?_
              rintro e w5 ⟨A5, n5, c5, rfl, hb5, hf5⟩
              have hs5 : w.heap.size ≤ w5.heap.size := hb5.size
              have hb5' : Below w.heap.size w w5 := ⟨hb5.os, hb5.tape, hb5.output, hb5.size, hb5.block⟩
              have htx := spec_l3Text_any A5 n5 c5 (mergeOf to ta tb) w5 _ _ hf5.rep (Nat.le_refl _) Hfew.out Hsml.out
              rw [← Hmy.out] at htx
              obtain ⟨mr, hmr⟩ : ∃ mr, mr = mergeText to ta tb := ⟨_, rfl⟩
              rw [← hmr] at htx
              have Hmr := Lib.hid hmr
              clear hmr hof hb5
              go_wp2_with fail
              refine Calls.mono htx ?_
              rintro e w6 ⟨A6, n6, c6, rfl, hb6, hf6⟩
              have hb7 : Below w.heap.size w w6 := hb5'.trans (hb6.mono hs5)
              clear htx
              cases mr with
              | none =>
                have Hj2 := Lib.hid (show joinAt (some to) (some ta) (some tb) = (some to, 3) by rw [Hj.out, ← Hmr.out])
                simp only [Option.isSome_none]
                go_wp2
                go_ret3
                rw [Hj2.out]
                exact ⟨B1, m1, d1, rfl, hb7, .inl (r1.keep hb7 hB)⟩
              | some tm =>
                have Hj2 := Lib.hid (show joinAt (some to) (some ta) (some tb) = (some tm, 0) by rw [Hj.out, ← Hmr.out])
                have Hf6 := Lib.hid (hf6.rep.mono hs5 (Nat.le_refl _))
                clear hf6
                simp only [Option.isSome_some]
                go_wp2
                go_ret3
                rw [Hj2.out]
                exact ⟨A6, n6, c6, rfl, hb7, .inr Hf6.out⟩

set_option maxRecDepth 100000 in
set_option maxHeartbeats 8000000 in
theorem spec_l6Of_any (A1 A2 A3 : Option Addr) (n1 c1 n2 c2 n3 c3 : Nat) (xs ys zs : List PFile) (w : World) (lo hi lo' hi' lo'' hi'' : Nat) (h1 : Rep w lo hi (encFiles xs) (.slice A1 n1 c1)) (h2 : Rep w lo' hi' (encFiles ys) (.slice A2 n2 c2)) (h3 : Rep w lo'' hi'' (encFiles zs) (.slice A3 n3 c3)) (hh1 : hi ≤ w.heap.size) (hh2 : hi' ≤ w.heap.size) (hh3 : hi'' ≤ w.heap.size) (t1 : treeOk xs = true) (t2 : treeOk ys = true) (t3 : treeOk zs = true) :
    Calls Tryz.prog 38 #[.slice A1 n1 c1, .slice A2 n2 c2, .slice A3 n3 c3] w fun e w' => ∃ A n c A' n' c', e = .returned (.tuple #[.slice A n c, .slice A' n' c']) ∧ Below w.heap.size w w' ∧
      FreshL w' w.heap.size w'.heap.size [encFiles (joinOut xs ys zs (paths3 xs ys zs)), encClashs (joinBad xs ys zs (paths3 xs ys zs))] [.slice A n c, .slice A' n' c'] := by
  obtain ⟨ih, gi0, gi1, gi2, gi3⟩ := info_parts Tryz.infoFile
  obtain ⟨iq, ci0, ci1, ci2, ci3⟩ := info_parts Tryz.infoClash
  obtain ⟨is, si0, si1, si2, si3⟩ := info_parts Tryz.infoStr
  have h8x := (treeOk_iff.1 t1).1
  have h8y := (treeOk_iff.1 t2).1
  have h8z := (treeOk_iff.1 t3).1
  have T1 := Lib.hid t1
  have T2 := Lib.hid t2
  have T3 := Lib.hid t3
  have hpl := paths3_len xs ys zs
  clear t1 t2 t3
  have hb0 : Below w.heap.size w ((w.alloc (.cells #[] 61)).alloc (.cells #[] 79)) := ((Below.refl _ _).alloc (Nat.le_refl _) _).alloc (by simp) _
  have hF0 : FreshL ((w.alloc (.cells #[] 61)).alloc (.cells #[] 79)) w.heap.size (w.heap.size + 2) [encFiles [], encClashs []] [.slice (some ⟨w.heap.size, 0, none⟩) 0 0, .slice (some ⟨w.heap.size + 1, 0, none⟩) 0 0] := by
    have k1 : Fresh (w.alloc (.cells #[] 61)) w.heap.size (w.heap.size + 1) (encFiles []) (.slice (some ⟨w.heap.size, 0, none⟩) 0 0) := by
      have := (Fresh.of_row (World.ownsRow_made w #[] (e := 61) (size := 2) 0 (Nat.le_refl _) (Nat.zero_le _) rfl) ⟨rfl, rfl⟩ : Fresh _ _ _ (.sl 61 2 []) _)
      have h9 : Fresh (w.alloc (.cells #[] 61)) w.heap.size (w.heap.size + 1) (.sl 61 2 []) (.slice (some ⟨w.heap.size, 0, none⟩) 0 0) := by simpa using this
      exact h9
    have k2 : Fresh ((w.alloc (.cells #[] 61)).alloc (.cells #[] 79)) (w.heap.size + 1) (w.heap.size + 2) (encClashs []) (.slice (some ⟨w.heap.size + 1, 0, none⟩) 0 0) := by
      have := (Fresh.of_row (World.ownsRow_made (w.alloc (.cells #[] 61)) #[] (e := 79) (size := 2) (base := w.heap.size + 1) 0 (by simp) (Nat.zero_le _) rfl) ⟨rfl, rfl⟩ : Fresh _ _ _ (.sl 79 2 []) _)
      have h9 : Fresh ((w.alloc (.cells #[] 61)).alloc (.cells #[] 79)) (w.heap.size + 1) (w.heap.size + 2) (.sl 79 2 []) (.slice (some ⟨w.heap.size + 1, 0, none⟩) 0 0) := by simpa using this
      exact h9
    exact FreshL.cons (k1.same ((Same.refl _ _ _).alloc (by simp) _)) k2.one (by omega) (by omega)
  have hsz0 : ((w.alloc (.cells #[] 61)).alloc (.cells #[] 79)).heap.size = w.heap.size + 2 := by simp
  have hp := spec_l6Paths_any A1 A2 A3 n1 c1 n2 c2 n3 c3 xs ys zs ((w.alloc (.cells #[] 61)).alloc (.cells #[] 79)) lo hi lo' hi' lo'' hi'' (h1.keep hb0 hh1) (h2.keep hb0 hh2) (h3.keep hb0 hh3) (Nat.le_trans hh1 hb0.size) (Nat.le_trans hh2 hb0.size) (Nat.le_trans hh3 hb0.size) h8x h8y h8z
  obtain ⟨ps, hps⟩ : ∃ ps, ps = paths3 xs ys zs := ⟨_, rfl⟩
  rw [hsz0] at hp
  rw [← hps] at hp hpl ⊢
  clear hsz0 hps
  go_enter Tryz.func38, Tryz.ntmps38
  go_wp2_with fail
  refine Calls.mono hp ?_
  rintro e w3 ⟨Ap, np, cp, rfl, hb3, hrp⟩
  clear hp
  have hs3 : w.heap.size + 2 ≤ w3.heap.size := by have := hb3.size; simpa using this
  have hF3 := hF0.kept hb3 (Nat.le_refl _)
  have hbw : Below w.heap.size w w3 := hb0.trans (hb3.mono (by omega))
  clear hF0 hb3 hb0
  have hnp := Text.n hrp
  obtain ⟨hcp, hmp⟩ := Text.cap hrp
  subst hnp
  obtain ⟨P0, hP0⟩ : ∃ P0, P0 = w.heap.size + 2 := ⟨_, rfl⟩
  obtain ⟨P1, hP1⟩ : ∃ P1, P1 = w3.heap.size := ⟨_, rfl⟩
  rw [← hP0, ← hP1] at hrp
  have Hk0 : ∀ g, (Value.slice (some ⟨w.heap.size, 0, none⟩) 0 0).ownBlock = some g → g < P0 ∨ P1 ≤ g := fun g hg => by simp [Value.ownBlock] at hg; omega
  have Hk1 : ∀ g, (Value.slice (some ⟨w.heap.size + 1, 0, none⟩) 0 0).ownBlock = some g → g < P0 ∨ P1 ≤ g := fun g hg => by simp [Value.ownBlock] at hg; omega
  have hF4 : FreshL w3 w.heap.size w3.heap.size [encFiles [], encClashs []] [.slice (some ⟨w.heap.size, 0, none⟩) 0 0, .slice (some ⟨w.heap.size + 1, 0, none⟩) 0 0] := hF3.mono (Nat.le_refl _) (by omega)
  have hP1' : P1 ≤ w3.heap.size := by omega
  have Hk0' := Lib.hid Hk0
  have Hk1' := Lib.hid Hk1
  have HP := Lib.hid hP1
  clear hF3 Hk0 Hk1 hP0 hP1
  go_wp2
  go_loopw [8, 9, 11] (fun t u i wr => ∃ (k : Nat) (out : List PFile) (bad : List PClash) (A' : Option Addr) (c' : Nat) (A9 : Option Addr) (c9 : Nat), k ≤ ps.length ∧ t = .slice A' out.length c' ∧ u = .slice A9 bad.length c9 ∧ i = .int .i64 k ∧ Hid (out = joinOut xs ys zs (ps.take k)) ∧ Hid (bad = joinBad xs ys zs (ps.take k)) ∧
      FreshL wr w.heap.size wr.heap.size [encFiles out, encClashs bad] [.slice A' out.length c', .slice A9 bad.length c9] ∧ (∀ g, (Value.slice A' out.length c').ownBlock = some g → g < P0 ∨ P1 ≤ g) ∧ (∀ g, (Value.slice A9 bad.length c9).ownBlock = some g → g < P0 ∨ P1 ≤ g) ∧
      Same P0 P1 w3 wr ∧ Below w.heap.size w wr ∧ P1 ≤ wr.heap.size) (fun _ _ i _ => ps.length - (intOf i).toNat)
  case atStart => exact ⟨0, [], [], _, _, _, _, Nat.zero_le _, rfl, rfl, rfl, Lib.hid rfl, Lib.hid rfl, hF4, Hk0'.out, Hk1'.out, Same.refl _ _ _, hbw, hP1'⟩
  case round =>
    clear hF4 hP1'
    obtain ⟨k, out, bad, A', c', A9, c9, hk, rfl, rfl, rfl, hout, hbad, hF, hk1, hk2, hsm, hb, hPw⟩ := hrel
    have hsz := hb.size
    obtain ⟨wo, rfl⟩ : ∃ wo : World, wo = wr := ⟨_, rfl⟩
    have hol : out.length ≤ 24 := by
      have := joinOut_len xs ys zs (ps.take k)
      rw [← hout.out, List.length_take] at this
      omega
    have hbl : bad.length ≤ 24 := by
      have := joinBad_len xs ys zs (ps.take k)
      rw [← hbad.out, List.length_take] at this
      omega
    by_cases hkn : k < ps.length
    · have hkn' : (k : Int) < (ps.length : Int) := by omega
      obtain ⟨bp, op, p, rfl, hbp0, hbp1, hpk, hcell⟩ := Text.at (hrp.same hsm) hkn
      have Hno := Lib.hid (show joinOut xs ys zs (ps.take (k + 1)) = out ++ outOne p (joinHere xs ys zs p) by rw [joinOut_next hpk, hout.out])
      have Hnb := Lib.hid (show joinBad xs ys zs (ps.take (k + 1)) = bad ++ badOne p (joinHere xs ys zs p) by rw [joinBad_next hpk, hbad.out])
      have hkind := joinAt_kind (getAt xs p) (getAt ys p) (getAt zs p)
      clear hpk hout hbad
      have h6 := spec_l6One_any A1 A2 A3 n1 c1 n2 c2 n3 c3 xs ys zs p wo lo hi lo' hi' lo'' hi'' (h1.keep hb hh1) (h2.keep hb hh2) (h3.keep hb hh3) w.heap.size hh1 hh2 hh3 hsz T1.out T2.out T3.out
      change (joinHere xs ys zs p).2 = 0 ∨ 0 < (joinHere xs ys zs p).2 at hkind
      obtain ⟨r, hr⟩ : ∃ r, r = joinHere xs ys zs p := ⟨_, rfl⟩
      rw [← hr] at h6 hkind
      obtain ⟨rt, rk⟩ := r
      have Hr := Lib.hid hr.symm
      dsimp only at h6 hkind
      clear hr
      go_wp2_with fail
      refine Calls.mono h6 ?_
      rintro e w5 ⟨A5, n5, c5, rfl, hb5, hr5⟩
      clear h6
      have hs5 := hb5.size
      have hF5 : FreshL w5 w.heap.size w5.heap.size [encFiles out, encClashs bad] [.slice A' out.length c', .slice A9 bad.length c9] := (hF.kept hb5 (Nat.le_refl _)).mono (Nat.le_refl _) hs5
      have hsm5 : Same P0 P1 w3 w5 := hsm.trans (.of_below hb5 hPw)
      have hbw5 : Below w.heap.size w w5 := hb.trans (hb5.mono hsz)
      have hc5 : w5.cell? ⟨bp, op + k, none⟩ = some (.string ⟨p.toArray⟩) := (hb5.cell (p := ⟨bp, op + k, none⟩) (show bp < wo.heap.size by omega)).trans hcell
      have hP5 : P1 ≤ w5.heap.size := by omega
      by_cases hk0 : rk = 0
      · subst hk0
        have Hbad : Hid (bad = joinBad xs ys zs (ps.take (k + 1))) := Lib.hid (by rw [Hnb.out, Hr.out]; simp [badOne])
        obtain ⟨lo9, hi9, hi9V, rV⟩ : ∃ lo9 hi9, hi9 ≤ w5.heap.size ∧ Rep w5 lo9 hi9 (encText (rt.getD [])) (.slice A5 n5 c5) := by
          rcases hr5 with h9 | h9
          · exact ⟨_, _, by omega, h9⟩
          · exact ⟨_, _, Nat.le_refl _, h9⟩
        have hFV := hF5
        have hkb := hk2
        have hsV := hsm5
        have hbV := hbw5
        have hPV := hP5
        have hcV := hc5
        clear hF5 hk2 hsm5 hbw5 hP5 hc5 hr5 hb5 hF hsm hcell hkind
        cases rt with
        | none =>
          go_wp2
          go_roundw
          case rel => exact ⟨k + 1, out, bad, A', _, A9, c9, by omega, rfl, rfl, by go_num, Lib.hid (by rw [Hno.out, Hr.out]; simp [outOne]), Hbad, hFV, hk1, hkb, hsV, hbV, hPV⟩
          case measure => first | (simp [intOf]; done) | (simp [intOf]; omega)
        | some t =>
          rw [Option.getD_some] at rV
          have hn5 := Text.n rV
          have htl : t.length ≤ 10 := joinHere_len T1.out T2.out T3.out (by rw [Hr.out])
          subst hn5
          have hsz5 := hbV.size
          have M1 : ((w5.alloc (Obj.cells #[] 9)).drew).ownsRow w5.heap.size 9 1 (.slice (some ⟨w5.heap.size, 0, none⟩) 0 0) 0 [] := World.ownsRow_made w5 #[] 0 (Nat.le_refl _) (Nat.zero_le _) rfl
          go_wp2
          go_region_held3 (fun w' => w'.cell? ⟨bp, op + k, none⟩ = some (.string ⟨p.toArray⟩)) (first | (with_reducible trivial) | (with_reducible exact hcV) | (with_reducible exact cw) | (with_reducible exact cy) | go_keep) (first
            | (
               refine step_append_src _ (by rfl) (.tmp 56) (.tmp 57) _ (by rfl) w5.heap.size 9 is _ 1 16 Tryz.underlying59 si0 si1 si2 si3 (by rfl) (by omega) _ 0 [] (by rfl) M1 A5 t.length c5 _ (by rfl) (Text.src (rV.keep (B := w5.heap.size) (by (repeat' (first | with_reducible exact Below.refl _ _ | with_reducible assumption | (with_reducible refine Below.setCell ?_ ?_ _) | (with_reducible refine Below.alloc ?_ ?_ _) | (with_reducible refine below_drewN ?_ _) | (with_reducible refine Below.drew ?_) | omega | (simp; done) | (simp; omega)))) hi9V)) (texts_one _) (by unfold maxLen; omega) (by omega) (by first | omega | (simp; done) | (simp; omega)) ?_
               intro A6 c6 w6 hown6 hg6 hat6
               change World.grownBy _ w6 (Value.slice (some ⟨w5.heap.size, 0, none⟩) 0 0).ownBlock at hg6
               rw [Nat.zero_add] at hown6
               have hb6 : Below w5.heap.size w5 w6 := Below.grown (by (repeat' (first | with_reducible exact Below.refl _ _ | with_reducible assumption | (with_reducible refine Below.setCell ?_ ?_ _) | (with_reducible refine Below.alloc ?_ ?_ _) | (with_reducible refine below_drewN ?_ _) | (with_reducible refine Below.drew ?_) | omega | (simp; done) | (simp; omega)))) hg6 (by first | omega | (simp; done) | (simp; omega)) (fun g hg => by simp [Value.ownBlock] at hg; omega)
               have cw : w6.cell? ⟨bp, op + k, none⟩ = some (.string ⟨p.toArray⟩) := (hb6.cell (p := ⟨bp, op + k, none⟩) (show bp < w5.heap.size by omega)).trans hcV)
            | (
               have hs6 := hb6.size
               have hf6 : Fresh w6 w5.heap.size w6.heap.size (encText t) (.slice A6 t.length c6) := Fresh.of_row hown6 (owns_strs _ _)
               refine step_pushK (by rfl) (.tmp 51) (.tmp 60) _ (by rfl) w.heap.size 61 ih _ 2 40 Tryz.underlying27 gi0 gi1 gi2 gi3 (by rfl) (by omega) w5 w6 _ _ _ A' out.length c' hFV hsz5 hb6 [.string ⟨p.toArray⟩, .slice A6 t.length c6] (cFiles ⟨p, t⟩) (FreshL.plain ⟨rfl, rfl⟩ (Fresh.one hf6)) rfl (by rfl) (by rfl) _ 1 (by rfl) (by rfl) (by intro u hu; simp at hu; rcases hu with rfl | rfl <;> rfl) (by unfold maxLen; omega) (by omega) ?_
               intro A8 c8 w8 hF8 hB8 hlt8 hkp8 hnb8
               have cy : w8.cell? ⟨bp, op + k, none⟩ = some (.string ⟨p.toArray⟩) := (World.cell?_of_block (a := ⟨bp, op + k, none⟩) (hkp8 bp (show bp < w6.heap.size by omega) (fun e9 => by have := hk1 bp e9; omega))).trans cw))
          rw [Files.snoc] at hF8
          have hs8 : Same P0 P1 w3 w8 := hsV.trans (fun q h8 h9 => (hkp8 q (by have := hb6.size; omega) (fun e9 => by have := hk1 q e9; omega)).trans (hb6.block q (by omega)))
          have hk8 : ∀ g, (Value.slice A8 (out.length + 1) c8).ownBlock = some g → g < P0 ∨ P1 ≤ g := fun g hg => by
            rcases hnb8 g hg with e9 | e9
            · exact hk1 g e9
            · have := hb6.size; omega
          have hb8 : Below w.heap.size w w8 := hbV.trans hB8
          have hP8 : P1 ≤ w8.heap.size := by have := hb6.size; omega
          have hol2 : (out ++ [(⟨p, t⟩ : PFile)]).length = out.length + 1 := by simp
          rw [← hol2] at hF8 hk8
          clear hol2
          have Hf8 := Lib.hid hF8
          have Hk8 := Lib.hid hk8
          have Hs8 := Lib.hid hs8
          clear hF8 hk8 hs8 hkp8 hnb8 hb6 hown6 hg6 hat6 hf6 cw cy M1 hB8
          go_wp2
          go_roundw
          case rel => exact ⟨k + 1, out ++ [(⟨p, t⟩ : PFile)], bad, A8, c8, A9, c9, by omega, by simp, rfl, by go_num, Lib.hid (by rw [Hno.out, Hr.out]; simp [outOne]), Hbad, Hf8.out, Hk8.out, hkb, Hs8.out, hb8, hP8⟩
          case measure => first | (simp [intOf]; done) | (simp [intOf]; omega)
      · have hkp : (0 : Int) < rk := by omega
        have Hbad : Hid (bad ++ [⟨p, rk⟩] = joinBad xs ys zs (ps.take (k + 1))) := Lib.hid (by rw [Hnb.out, Hr.out]; simp [badOne, hk0])
        clear hk0 hkind
        go_wp2_with (at_builtin; go_loud (refine wpList_pushK rfl (.tmp 41) (.tmp 48) _ rfl w.heap.size 79 iq _ 2 24 Tryz.underlying44 ci0 ci1 ci2 ci3 rfl (by omega) w5 w5 _ _ _ A9 bad.length c9 hF5.swap (by omega) (Below.refl _ _) [.string ⟨p.toArray⟩, .int .i64 rk] (cClashs ⟨p, rk⟩) (FreshL.plain ⟨rfl, rfl⟩ (FreshL.plain ⟨rfl, rfl⟩ (FreshL.nil _ _ _))) rfl rfl rfl _ 1 rfl rfl (by intro u hu; simp at hu; rcases hu with rfl | rfl <;> rfl) (by unfold maxLen; omega) (by omega) ?_))
        intro A7 c7 w7 hF7 hB7 hlt7 hkp7 hnb7
        rw [Clashs.snoc] at hF7
        have hFV : FreshL w7 w.heap.size w7.heap.size [encFiles out, encClashs (bad ++ [⟨p, rk⟩])] [.slice A' out.length c', .slice A7 (bad.length + 1) c7] := hF7.swap
        obtain ⟨lo9, hi9, hi9V, rV⟩ : ∃ lo9 hi9, hi9 ≤ w7.heap.size ∧ Rep w7 lo9 hi9 (encText (rt.getD [])) (.slice A5 n5 c5) := by
          rcases hr5 with h9 | h9
          · exact ⟨_, _, by omega, h9.keep hB7 (Nat.le_refl _)⟩
          · refine ⟨_, _, by omega, h9.same (fun q h8 h9 => hkp7 q h9 (fun e9 => ?_))⟩
            have := (hF.swap.blk q e9).2
            omega
        have hkb : ∀ g, (Value.slice A7 (bad.length + 1) c7).ownBlock = some g → g < P0 ∨ P1 ≤ g := fun g hg => by
          rcases hnb7 g hg with e9 | e9
          · exact hk2 g e9
          · omega
        have hsV : Same P0 P1 w3 w7 := hsm5.trans (fun q h8 h9 => hkp7 q (by omega) (fun e9 => by have := hk2 q e9; omega))
        have hbV : Below w.heap.size w w7 := hbw5.trans hB7
        have hcV : w7.cell? ⟨bp, op + k, none⟩ = some (.string ⟨p.toArray⟩) := (World.cell?_of_block (a := ⟨bp, op + k, none⟩) (hkp7 bp (by omega) (fun e9 => by have := hk2 bp e9; omega))).trans hc5
        have hPV : P1 ≤ w7.heap.size := by omega
        have hbl2 : (bad ++ [(⟨p, rk⟩ : PClash)]).length = bad.length + 1 := by simp
        have Hkb := Lib.hid hkb
        clear hF7 hB7 hkp7 hnb7 hF5 hk2 hsm5 hbw5 hP5 hc5 hr5 hb5 hF hsm hcell hkb
        have hkb : ∀ g, (Value.slice A7 (bad ++ [(⟨p, rk⟩ : PClash)]).length c7).ownBlock = some g → g < P0 ∨ P1 ≤ g := by rw [hbl2]; exact Hkb.out
        rw [← hbl2] at hFV ⊢
        clear Hkb
        obtain ⟨bad2, hbad2⟩ : ∃ bad2, bad2 = bad ++ [(⟨p, rk⟩ : PClash)] := ⟨_, rfl⟩
        rw [← hbad2] at hFV hkb Hbad ⊢
        clear hbad2 hbl2
        cases rt with
        | none =>
          go_wp2
          go_roundw
          case rel => exact ⟨k + 1, out, bad2, A', _, A7, c7, by omega, rfl, rfl, by go_num, Lib.hid (by rw [Hno.out, Hr.out]; simp [outOne]), Hbad, hFV, hk1, hkb, hsV, hbV, hPV⟩
          case measure => first | (simp [intOf]; done) | (simp [intOf]; omega)
        | some t =>
          rw [Option.getD_some] at rV
          have hn5 := Text.n rV
          have htl : t.length ≤ 10 := joinHere_len T1.out T2.out T3.out (by rw [Hr.out])
          subst hn5
          have hsz5 := hbV.size
          have M1 : ((w7.alloc (Obj.cells #[] 9)).drew).ownsRow w7.heap.size 9 1 (.slice (some ⟨w7.heap.size, 0, none⟩) 0 0) 0 [] := World.ownsRow_made w7 #[] 0 (Nat.le_refl _) (Nat.zero_le _) rfl
          go_wp2
          go_region_held3 (fun w' => w'.cell? ⟨bp, op + k, none⟩ = some (.string ⟨p.toArray⟩)) (first | (with_reducible trivial) | (with_reducible exact hcV) | (with_reducible exact cw) | (with_reducible exact cy) | go_keep) (first
            | (
               refine step_append_src _ (by rfl) (.tmp 56) (.tmp 57) _ (by rfl) w7.heap.size 9 is _ 1 16 Tryz.underlying59 si0 si1 si2 si3 (by rfl) (by omega) _ 0 [] (by rfl) M1 A5 t.length c5 _ (by rfl) (Text.src (rV.keep (B := w7.heap.size) (by (repeat' (first | with_reducible exact Below.refl _ _ | with_reducible assumption | (with_reducible refine Below.setCell ?_ ?_ _) | (with_reducible refine Below.alloc ?_ ?_ _) | (with_reducible refine below_drewN ?_ _) | (with_reducible refine Below.drew ?_) | omega | (simp; done) | (simp; omega)))) hi9V)) (texts_one _) (by unfold maxLen; omega) (by omega) (by first | omega | (simp; done) | (simp; omega)) ?_
               intro A6 c6 w6 hown6 hg6 hat6
               change World.grownBy _ w6 (Value.slice (some ⟨w7.heap.size, 0, none⟩) 0 0).ownBlock at hg6
               rw [Nat.zero_add] at hown6
               have hb6 : Below w7.heap.size w7 w6 := Below.grown (by (repeat' (first | with_reducible exact Below.refl _ _ | with_reducible assumption | (with_reducible refine Below.setCell ?_ ?_ _) | (with_reducible refine Below.alloc ?_ ?_ _) | (with_reducible refine below_drewN ?_ _) | (with_reducible refine Below.drew ?_) | omega | (simp; done) | (simp; omega)))) hg6 (by first | omega | (simp; done) | (simp; omega)) (fun g hg => by simp [Value.ownBlock] at hg; omega)
               have cw : w6.cell? ⟨bp, op + k, none⟩ = some (.string ⟨p.toArray⟩) := (hb6.cell (p := ⟨bp, op + k, none⟩) (show bp < w7.heap.size by omega)).trans hcV)
            | (
               have hs6 := hb6.size
               have hf6 : Fresh w6 w7.heap.size w6.heap.size (encText t) (.slice A6 t.length c6) := Fresh.of_row hown6 (owns_strs _ _)
               refine step_pushK (by rfl) (.tmp 51) (.tmp 60) _ (by rfl) w.heap.size 61 ih _ 2 40 Tryz.underlying27 gi0 gi1 gi2 gi3 (by rfl) (by omega) w7 w6 _ _ _ A' out.length c' hFV hsz5 hb6 [.string ⟨p.toArray⟩, .slice A6 t.length c6] (cFiles ⟨p, t⟩) (FreshL.plain ⟨rfl, rfl⟩ (Fresh.one hf6)) rfl (by rfl) (by rfl) _ 1 (by rfl) (by rfl) (by intro u hu; simp at hu; rcases hu with rfl | rfl <;> rfl) (by unfold maxLen; omega) (by omega) ?_
               intro A8 c8 w8 hF8 hB8 hlt8 hkp8 hnb8
               have cy : w8.cell? ⟨bp, op + k, none⟩ = some (.string ⟨p.toArray⟩) := (World.cell?_of_block (a := ⟨bp, op + k, none⟩) (hkp8 bp (show bp < w6.heap.size by omega) (fun e9 => by have := hk1 bp e9; omega))).trans cw))
          rw [Files.snoc] at hF8
          have hs8 : Same P0 P1 w3 w8 := hsV.trans (fun q h8 h9 => (hkp8 q (by have := hb6.size; omega) (fun e9 => by have := hk1 q e9; omega)).trans (hb6.block q (by omega)))
          have hk8 : ∀ g, (Value.slice A8 (out.length + 1) c8).ownBlock = some g → g < P0 ∨ P1 ≤ g := fun g hg => by
            rcases hnb8 g hg with e9 | e9
            · exact hk1 g e9
            · have := hb6.size; omega
          have hb8 : Below w.heap.size w w8 := hbV.trans hB8
          have hP8 : P1 ≤ w8.heap.size := by have := hb6.size; omega
          have hol2 : (out ++ [(⟨p, t⟩ : PFile)]).length = out.length + 1 := by simp
          rw [← hol2] at hF8 hk8
          clear hol2
          have Hf8 := Lib.hid hF8
          have Hk8 := Lib.hid hk8
          have Hs8 := Lib.hid hs8
          clear hF8 hk8 hs8 hkp8 hnb8 hb6 hown6 hg6 hat6 hf6 cw cy M1 hB8
          go_wp2
          go_roundw
          case rel => exact ⟨k + 1, out ++ [(⟨p, t⟩ : PFile)], bad2, A8, c8, A7, c7, by omega, by simp, rfl, by go_num, Lib.hid (by rw [Hno.out, Hr.out]; simp [outOne]), Hbad, Hf8.out, Hk8.out, hkb, Hs8.out, hb8, hP8⟩
          case measure => first | (simp [intOf]; done) | (simp [intOf]; omega)
    · obtain rfl : k = ps.length := by omega
      rw [List.take_length] at hout hbad
      go_wp2
      go_ret2
      rw [← hout.out, ← hbad.out]
      exact ⟨_, _, _, _, _, _, rfl, hb, hF⟩
end Go.Proofs.YtenkceeicmfjhaaGreatDoor

/- Walks: JoinOf and JoinTree: the reference's. Printed by wip/mk_joinof.py. -/
namespace Go.Proofs.YtenkceeicmfjhaaGreatDoor
open Go.RowKit

set_option maxRecDepth 100000 in
set_option maxHeartbeats 4000000 in
theorem spec_l6Join_any (A1 A2 A3 : Option Addr) (n1 c1 n2 c2 n3 c3 : Nat) (xs ys zs : List PFile) (w : World) (lo hi lo' hi' lo'' hi'' : Nat) (h1 : Rep w lo hi (encFiles xs) (.slice A1 n1 c1)) (h2 : Rep w lo' hi' (encFiles ys) (.slice A2 n2 c2)) (h3 : Rep w lo'' hi'' (encFiles zs) (.slice A3 n3 c3)) (hh1 : hi ≤ w.heap.size) (hh2 : hi' ≤ w.heap.size) (hh3 : hi'' ≤ w.heap.size) (t1 : treeOk xs = true) (t2 : treeOk ys = true) (t3 : treeOk zs = true) (ht1 : okTree xs) (ht2 : okTree ys) (ht3 : okTree zs) :
    Calls Tryz.prog 17 #[.slice A1 n1 c1, .slice A2 n2 c2, .slice A3 n3 c3] w fun e w' => ∃ A n c A' n' c', e = .returned (.tuple #[.slice A n c, .slice A' n' c']) ∧ Below w.heap.size w w' ∧
      FreshL w' w.heap.size w'.heap.size [encFiles (joinPair xs ys zs).1, encClashs (joinPair xs ys zs).2] [.slice A n c, .slice A' n' c'] := by
  have HX := Lib.hid (smallTree_ok t1)
  have hof := spec_l6Of_any A1 A2 A3 n1 c1 n2 c2 n3 c3 xs ys zs w lo hi lo' hi' lo'' hi'' h1 h2 h3 hh1 hh2 hh3 t1 t2 t3
  have hoT := Lib.hid (okTree_joinOut ht1 ht2 ht3)
  obtain ⟨out, hout⟩ : ∃ out, out = joinOut xs ys zs (paths3 xs ys zs) := ⟨_, rfl⟩
  obtain ⟨bad, hbad⟩ : ∃ bad, bad = joinBad xs ys zs (paths3 xs ys zs) := ⟨_, rfl⟩
  rw [← hout] at hof hoT
  rw [← hbad] at hof
  have Hout := Lib.hid hout
  have Hbad := Lib.hid hbad
  clear hout hbad ht1 ht2 ht3 t1 t2 t3
  go_enter Tryz.func17, Tryz.ntmps17
  go_wp2_with fail
  refine Calls.mono hof ?_
  rintro e w5 ⟨A', n', c', A9, n9, c9, rfl, hbV, hF⟩
  clear hof
  have hn1 := Files.n hF.fst.rep
  have hn2 := Clashs.n hF.swap.fst.rep
  subst hn1 hn2
  have hbase : w.heap.size ≤ w.heap.size := Nat.le_refl _
  by_cases hbe : bad = []
  · subst hbe
    have hq := spec_l4Ok_any A' out.length c' out w5 _ _ hF.fst.rep (Nat.le_refl _) hoT.out
    obtain ⟨tk, htk⟩ : ∃ tk, tk = treeOk out := ⟨_, rfl⟩
    rw [← htk] at hq
    have Htk := Lib.hid htk
    clear htk
    go_wp2_with fail
    refine Calls.mono hq ?_
    rintro e w6 ⟨rfl, hb6⟩
    have hs6 := hb6.size
    clear hq
    cases tk with
    | true =>
      have Hv := Lib.hid (show joinPair xs ys zs = (out, []) by unfold joinPair; rw [← Hout.out, ← Hbad.out, ← Htk.out]; rfl)
      go_wp2
      go_ret2
      rw [Hv.out]
      exact ⟨_, _, _, _, _, _, rfl, hbV.trans (hb6.mono hbV.size), ((hF.kept hb6 (Nat.le_refl _)).mono hbase hs6)⟩
    | false =>
      have Hv := Lib.hid (show joinPair xs ys zs = (xs, [⟨[], 4⟩]) by unfold joinPair; rw [← Hout.out, ← Hbad.out, ← Htk.out]; rfl)
      have hbw6 : Below w.heap.size w w6 := hbV.trans (hb6.mono hbV.size)
      have hcp := spec_l4Copy_any A1 n1 c1 xs w6 lo hi (h1.keep hbw6 hh1) (Nat.le_trans hh1 hbw6.size) HX.out
      clear hF
      go_wp2_with fail
      refine Calls.mono hcp ?_
      rintro e w7 ⟨A7, n7, c7, rfl, hb7, hf7⟩
      have hs7 := hb7.size
      have hbw7 : Below w.heap.size w w7 := hbw6.trans (hb7.mono hbw6.size)
      have Hf7 := Lib.hid hf7
      have Hb7 := Lib.hid hbw7
      have hzz := hbw6.size
      clear hcp hf7 hb7 hbw6 hbw7 hb6
      go_wp2
      go_ret2
      rw [Hv.out]
      have k1 : Fresh (w7.alloc (.cells #[.string ⟨#[]⟩, .int .i64 4] 79)) w7.heap.size (w7.heap.size + 1) (encClashs [⟨[], 4⟩]) (.slice (some ⟨w7.heap.size, 0, none⟩) 1 1) := by
        have h8 : (w7.alloc (.cells #[.string ⟨#[]⟩, .int .i64 4] 79)).ownsRow w7.heap.size 79 2 (.slice (some ⟨w7.heap.size, 0, none⟩) 1 1) 1 [.string ⟨#[]⟩, .int .i64 4] :=
          ⟨rfl, .inr ⟨w7.heap.size, 1, #[.string ⟨#[]⟩, .int .i64 4], rfl, Nat.le_refl _, heap_new' w7 _, Nat.le_refl _, by unfold maxLen; omega, rfl, rfl⟩⟩
        have h9 : Fresh _ _ _ (.sl 79 2 (cClashs ⟨[], 4⟩)) _ := Fresh.of_row h8 ⟨_, _, [], [], rfl, rfl, ⟨rfl, rfl⟩, _, _, [], [], rfl, rfl, ⟨rfl, rfl⟩, rfl, rfl⟩
        have h10 : Fresh (w7.alloc (.cells #[.string ⟨#[]⟩, .int .i64 4] 79)) w7.heap.size (w7.heap.size + 1) (.sl 79 2 (cClashs ⟨[], 4⟩)) (.slice (some ⟨w7.heap.size, 0, none⟩) 1 1) := by simpa using h9
        exact h10
      have hsz8 : (w7.alloc (.cells #[.string ⟨#[]⟩, .int .i64 4] 79)).heap.size = w7.heap.size + 1 := by simp
      refine ⟨_, _, _, _, _, _, rfl, Hb7.out.alloc Hb7.out.size _, ?_⟩
      rw [hsz8]
      exact FreshL.cons ((Hf7.out.same ((Same.refl _ _ _).alloc (Nat.le_refl _) _)).mono hzz (Nat.le_refl _)) k1.one Hb7.out.size (Nat.le_succ _)
  · have hbn : ((bad.length : Int) == 0) = false := by
      have : bad.length ≠ 0 := fun e => hbe (List.length_eq_zero_iff.1 e)
      simp
      omega
    have Hv := Lib.hid (show joinPair xs ys zs = (out, bad) by unfold joinPair; rw [← Hout.out, ← Hbad.out]; simp [hbe])
    have hbn2 : ¬ (bad.length : Int) = 0 := by simpa using hbn
    clear hbe
    go_wp2
    go_ret2
    rw [Hv.out]
    exact ⟨_, _, _, _, _, _, rfl, hbV, hF.mono hbase (Nat.le_refl _)⟩

end Go.Proofs.YtenkceeicmfjhaaGreatDoor
