import Derived.Test.YtgcioajaglljfaaGreatDoorSpecJoin
import Derived.Test.YtgcioajaglljfaaGreatDoorTree2
import Derived.Test.YtgcioajaglljfaaGreatDoorZ32
/- Walks: JoinOf and JoinTree: the reference's. Printed by wip/mk_joinof.py. -/
namespace Go.Proofs.YtgcioajaglljfaaGreatDoor
open Go.RowKit

set_option maxRecDepth 100000 in
set_option maxHeartbeats 4000000 in
theorem spec_l6Join_any (A1 A2 A3 : Option Addr) (n1 c1 n2 c2 n3 c3 : Nat) (xs ys zs : List PFile) (w : World) (lo hi lo' hi' lo'' hi'' : Nat) (h1 : Rep w lo hi (encFiles xs) (.slice A1 n1 c1)) (h2 : Rep w lo' hi' (encFiles ys) (.slice A2 n2 c2)) (h3 : Rep w lo'' hi'' (encFiles zs) (.slice A3 n3 c3)) (hh1 : hi ≤ w.heap.size) (hh2 : hi' ≤ w.heap.size) (hh3 : hi'' ≤ w.heap.size) (t1 : treeOk xs = true) (t2 : treeOk ys = true) (t3 : treeOk zs = true) (ht1 : okTree xs) (ht2 : okTree ys) (ht3 : okTree zs) :
    Calls Tryz.prog 19 #[.slice A1 n1 c1, .slice A2 n2 c2, .slice A3 n3 c3] w fun e w' => ∃ A n c A' n' c', e = .returned (.tuple #[.slice A n c, .slice A' n' c']) ∧ Below w.heap.size w w' ∧
      FreshL w' w.heap.size w'.heap.size [encFiles (joinPair xs ys zs).1, encClashs (joinPair xs ys zs).2] [.slice A n c, .slice A' n' c'] := by
  have HX := Lib.hid (smallTree_ok t1)
  have hof := spec_l6Of_any A1 A2 A3 n1 c1 n2 c2 n3 c3 xs ys zs w lo hi lo' hi' lo'' hi'' h1 h2 h3 hh1 hh2 hh3 t1 t2 t3
  have hoT := Lib.hid (okTree_joinOut ht1 ht2 ht3)
  obtain ⟨out, hout⟩ : ∃ out, out = joinOut xs ys zs (paths3 xs ys zs) := ⟨_, rfl⟩
  obtain ⟨bad, hbad⟩ : ∃ bad, bad = joinBad xs ys zs (paths3 xs ys zs) := ⟨_, rfl⟩
  rw [← hout] at hof hoT
  rw [← hbad] at hof
  have Hout := Lib.hid hout
  have Hbad := Lib.hid hbad
  clear hout hbad ht1 ht2 ht3 t1 t2 t3
  go_enter Tryz.func19, Tryz.ntmps19
  go_wp2_with fail
  refine Calls.mono hof ?_
  rintro e w5 ⟨A', n', c', A9, n9, c9, rfl, hbV, hF⟩
  clear hof
  have hn1 := Files.n hF.fst.rep
  have hn2 := Clashs.n hF.swap.fst.rep
  subst hn1 hn2
  have hbase : w.heap.size ≤ w.heap.size := Nat.le_refl _
  by_cases hbe : bad = []
  · subst hbe
    have hq := spec_l4Ok_any A' out.length c' out w5 _ _ hF.fst.rep (Nat.le_refl _) hoT.out
    obtain ⟨tk, htk⟩ : ∃ tk, tk = treeOk out := ⟨_, rfl⟩
    rw [← htk] at hq
    have Htk := Lib.hid htk
    clear htk
    go_wp2_with fail
    refine Calls.mono hq ?_
    rintro e w6 ⟨rfl, hb6⟩
    have hs6 := hb6.size
    clear hq
    cases tk with
    | true =>
      have Hv := Lib.hid (show joinPair xs ys zs = (out, []) by unfold joinPair; rw [← Hout.out, ← Hbad.out, ← Htk.out]; rfl)
      go_wp2
      go_ret2
      rw [Hv.out]
      exact ⟨_, _, _, _, _, _, rfl, hbV.trans (hb6.mono hbV.size), ((hF.kept hb6 (Nat.le_refl _)).mono hbase hs6)⟩
    | false =>
      have Hv := Lib.hid (show joinPair xs ys zs = (xs, [⟨[], 4⟩]) by unfold joinPair; rw [← Hout.out, ← Hbad.out, ← Htk.out]; rfl)
      have hbw6 : Below w.heap.size w w6 := hbV.trans (hb6.mono hbV.size)
      have hcp := spec_l4Copy_any A1 n1 c1 xs w6 lo hi (h1.keep hbw6 hh1) (Nat.le_trans hh1 hbw6.size) HX.out
      clear hF
      go_wp2_with fail
      refine Calls.mono hcp ?_
      rintro e w7 ⟨A7, n7, c7, rfl, hb7, hf7⟩
      have hs7 := hb7.size
      have hbw7 : Below w.heap.size w w7 := hbw6.trans (hb7.mono hbw6.size)
      have Hf7 := Lib.hid hf7
      have Hb7 := Lib.hid hbw7
      have hzz := hbw6.size
      clear hcp hf7 hb7 hbw6 hbw7 hb6
      go_wp2
      go_ret2
      rw [Hv.out]
      have k1 : Fresh (w7.alloc (.cells #[.string ⟨#[]⟩, .int .i64 4] 51)) w7.heap.size (w7.heap.size + 1) (encClashs [⟨[], 4⟩]) (.slice (some ⟨w7.heap.size, 0, none⟩) 1 1) := by
        have h8 : (w7.alloc (.cells #[.string ⟨#[]⟩, .int .i64 4] 51)).ownsRow w7.heap.size 51 2 (.slice (some ⟨w7.heap.size, 0, none⟩) 1 1) 1 [.string ⟨#[]⟩, .int .i64 4] :=
          ⟨rfl, .inr ⟨w7.heap.size, 1, #[.string ⟨#[]⟩, .int .i64 4], rfl, Nat.le_refl _, heap_new' w7 _, Nat.le_refl _, by unfold maxLen; omega, rfl, rfl⟩⟩
        have h9 : Fresh _ _ _ (.sl 51 2 (cClashs ⟨[], 4⟩)) _ := Fresh.of_row h8 ⟨_, _, [], [], rfl, rfl, ⟨rfl, rfl⟩, _, _, [], [], rfl, rfl, ⟨rfl, rfl⟩, rfl, rfl⟩
        have h10 : Fresh (w7.alloc (.cells #[.string ⟨#[]⟩, .int .i64 4] 51)) w7.heap.size (w7.heap.size + 1) (.sl 51 2 (cClashs ⟨[], 4⟩)) (.slice (some ⟨w7.heap.size, 0, none⟩) 1 1) := by simpa using h9
        exact h10
      have hsz8 : (w7.alloc (.cells #[.string ⟨#[]⟩, .int .i64 4] 51)).heap.size = w7.heap.size + 1 := by simp
      refine ⟨_, _, _, _, _, _, rfl, Hb7.out.alloc Hb7.out.size _, ?_⟩
      rw [hsz8]
      exact FreshL.cons ((Hf7.out.same ((Same.refl _ _ _).alloc (Nat.le_refl _) _)).mono hzz (Nat.le_refl _)) k1.one Hb7.out.size (Nat.le_succ _)
  · have hbn : ((bad.length : Int) == 0) = false := by
      have : bad.length ≠ 0 := fun e => hbe (List.length_eq_zero_iff.1 e)
      simp
      omega
    have Hv := Lib.hid (show joinPair xs ys zs = (out, bad) by unfold joinPair; rw [← Hout.out, ← Hbad.out]; simp [hbe])
    have hbn2 : ¬ (bad.length : Int) = 0 := by simpa using hbn
    clear hbe
    go_wp2
    go_ret2
    rw [Hv.out]
    exact ⟨_, _, _, _, _, _, rfl, hbV, hF.mono hbase (Nat.le_refl _)⟩

set_option maxRecDepth 100000 in
set_option maxHeartbeats 4000000 in
theorem spec_JoinOf_any (A1 A2 A3 : Option Addr) (n1 c1 n2 c2 n3 c3 : Nat) (xs ys zs : List PFile) (w : World) (lo hi lo' hi' lo'' hi'' : Nat) (h1 : Rep w lo hi (encFiles xs) (.slice A1 n1 c1)) (h2 : Rep w lo' hi' (encFiles ys) (.slice A2 n2 c2)) (h3 : Rep w lo'' hi'' (encFiles zs) (.slice A3 n3 c3)) (hh1 : hi ≤ w.heap.size) (hh2 : hi' ≤ w.heap.size) (hh3 : hi'' ≤ w.heap.size) (ht1 : okTree xs) (ht2 : okTree ys) (ht3 : okTree zs) :
    Calls Tryz.prog 6 #[.slice A1 n1 c1, .slice A2 n2 c2, .slice A3 n3 c3] w fun e w' => ∃ A n c A' n' c', e = .returned (.tuple #[.slice A n c, .slice A' n' c']) ∧ Below w.heap.size w w' ∧
      FreshL w' w.heap.size w'.heap.size [encFiles (joinOf xs ys zs).1, encClashs (joinOf xs ys zs).2] [.slice A n c, .slice A' n' c'] := by
  have q1 := spec_l4Ok_any A1 n1 c1 xs w lo hi h1 hh1 ht1
  have q2 := fun w' (hb : Below w.heap.size w w') => spec_l4Ok_any A2 n2 c2 ys w' lo' hi' (h2.keep hb hh2) (Nat.le_trans hh2 hb.size) ht2
  have q3 := fun w' (hb : Below w.heap.size w w') => spec_l4Ok_any A3 n3 c3 zs w' lo'' hi'' (h3.keep hb hh3) (Nat.le_trans hh3 hb.size) ht3
  obtain ⟨v, hv⟩ : ∃ v, v = joinOf xs ys zs := ⟨_, rfl⟩
  rw [← hv]
  unfold joinOf trees3 at hv
  cases e1 : treeOk xs with
  | false =>
    rw [e1] at q1 hv
    have Hv := Lib.hid (show v = ([], []) from hv)
    clear q2 q3 e1 hv ht1 ht2 ht3
    go_enter Tryz.func6, Tryz.ntmps6
    go_wp2_with fail
    refine Calls.mono q1 ?_
    rintro e w1 ⟨rfl, hb1⟩
    go_wp2
    go_ret2
    exact ⟨none, 0, 0, none, 0, 0, rfl, hb1, by rw [Hv.out]; exact FreshL.cons (Fresh.nil _ _ _ _ _) (Fresh.one (Fresh.nil _ _ _ _ _)) (Nat.le_refl _) (hb1).size⟩
  | true =>
    rw [e1] at q1
    cases e2 : treeOk ys with
    | false =>
      rw [e2] at q2
      rw [e1, e2] at hv
      have Hv := Lib.hid (show v = ([], []) from hv)
      clear q3 e1 e2 hv ht1 ht2 ht3
      go_enter Tryz.func6, Tryz.ntmps6
      go_wp2_with fail
      refine Calls.mono q1 ?_
      rintro e w1 ⟨rfl, hb1⟩
      go_wp2_with fail
      refine Calls.mono (q2 w1 hb1) ?_
      rintro e w2 ⟨rfl, hb2⟩
      have hb12 : Below w.heap.size w w2 := hb1.trans (hb2.mono hb1.size)
      go_wp2
      go_ret2
      exact ⟨none, 0, 0, none, 0, 0, rfl, hb12, by rw [Hv.out]; exact FreshL.cons (Fresh.nil _ _ _ _ _) (Fresh.one (Fresh.nil _ _ _ _ _)) (Nat.le_refl _) (hb12).size⟩
    | true =>
      rw [e2] at q2
      cases e3 : treeOk zs with
      | false =>
        rw [e3] at q3
        rw [e1, e2, e3] at hv
        have Hv := Lib.hid (show v = ([], []) from hv)
        clear e1 e2 e3 hv ht1 ht2 ht3
        go_enter Tryz.func6, Tryz.ntmps6
        go_wp2_with fail
        refine Calls.mono q1 ?_
        rintro e w1 ⟨rfl, hb1⟩
        go_wp2_with fail
        refine Calls.mono (q2 w1 hb1) ?_
        rintro e w2 ⟨rfl, hb2⟩
        have hb12 : Below w.heap.size w w2 := hb1.trans (hb2.mono hb1.size)
        go_wp2_with fail
        refine Calls.mono (q3 w2 hb12) ?_
        rintro e w3 ⟨rfl, hb3⟩
        have hb13 : Below w.heap.size w w3 := hb12.trans (hb3.mono hb12.size)
        go_wp2
        go_ret2
        exact ⟨none, 0, 0, none, 0, 0, rfl, hb13, by rw [Hv.out]; exact FreshL.cons (Fresh.nil _ _ _ _ _) (Fresh.one (Fresh.nil _ _ _ _ _)) (Nat.le_refl _) (hb13).size⟩
      | true =>
        rw [e3] at q3
        rw [e1, e2, e3] at hv
        have E1 := Lib.hid e1
        have E2 := Lib.hid e2
        have E3 := Lib.hid e3
        have H1 := Lib.hid ht1
        have H2 := Lib.hid ht2
        have H3 := Lib.hid ht3
        have Hv := Lib.hid hv
        clear e1 e2 e3 hv ht1 ht2 ht3
        go_enter Tryz.func6, Tryz.ntmps6
        go_wp2_with fail
        refine Calls.mono q1 ?_
        rintro e w1 ⟨rfl, hb1⟩
        go_wp2_with fail
        refine Calls.mono (q2 w1 hb1) ?_
        rintro e w2 ⟨rfl, hb2⟩
        have hb12 : Below w.heap.size w w2 := hb1.trans (hb2.mono hb1.size)
        go_wp2_with fail
        refine Calls.mono (q3 w2 hb12) ?_
        rintro e w3 ⟨rfl, hb3⟩
        have hb4 : Below w.heap.size w w3 := hb12.trans (hb3.mono hb12.size)
        have hs4 := hb4.size
        clear q1 q2 q3 hb1 hb2 hb12 hb3
        have hp := spec_l6Join_any A1 A2 A3 n1 c1 n2 c2 n3 c3 xs ys zs w3 lo hi lo' hi' lo'' hi'' (h1.keep hb4 hh1) (h2.keep hb4 hh2) (h3.keep hb4 hh3) (Nat.le_trans hh1 hs4) (Nat.le_trans hh2 hs4) (Nat.le_trans hh3 hs4) E1.out E2.out E3.out H1.out H2.out H3.out
        go_wp2_with fail
        refine Calls.mono hp ?_
        rintro e w5 ⟨A', n', c', A9, n9, c9, rfl, hb5, hF⟩
        go_wp2
        go_ret2
        refine ⟨_, _, _, _, _, _, rfl, hb4.trans (hb5.mono hs4), ?_⟩
        rw [show v = joinPair xs ys zs from Hv.out]
        exact hF.mono hs4 (Nat.le_refl _)
set_option maxRecDepth 100000 in
set_option maxHeartbeats 4000000 in
theorem spec_JoinTree_any (A1 A2 A3 : Option Addr) (n1 c1 n2 c2 n3 c3 : Nat) (xs ys zs : List PFile) (w : World) (lo hi lo' hi' lo'' hi'' : Nat) (h1 : Rep w lo hi (encFiles xs) (.slice A1 n1 c1)) (h2 : Rep w lo' hi' (encFiles ys) (.slice A2 n2 c2)) (h3 : Rep w lo'' hi'' (encFiles zs) (.slice A3 n3 c3)) (hh1 : hi ≤ w.heap.size) (hh2 : hi' ≤ w.heap.size) (hh3 : hi'' ≤ w.heap.size) (ht1 : okTree xs) (ht2 : okTree ys) (ht3 : okTree zs) :
    Calls Tryz.prog 15 #[.slice A1 n1 c1, .slice A2 n2 c2, .slice A3 n3 c3] w fun e w' => ∃ A n c, e = .returned (.tuple #[.slice A n c, .bool (joinTree xs ys zs).isSome]) ∧ Below w.heap.size w w' ∧ Fresh w' w.heap.size w'.heap.size (encFiles ((joinTree xs ys zs).getD [])) (.slice A n c) := by
  have q1 := spec_l4Ok_any A1 n1 c1 xs w lo hi h1 hh1 ht1
  have q2 := fun w' (hb : Below w.heap.size w w') => spec_l4Ok_any A2 n2 c2 ys w' lo' hi' (h2.keep hb hh2) (Nat.le_trans hh2 hb.size) ht2
  have q3 := fun w' (hb : Below w.heap.size w w') => spec_l4Ok_any A3 n3 c3 zs w' lo'' hi'' (h3.keep hb hh3) (Nat.le_trans hh3 hb.size) ht3
  obtain ⟨v, hv⟩ : ∃ v, v = joinTree xs ys zs := ⟨_, rfl⟩
  rw [← hv]
  unfold joinTree trees3 at hv
  cases e1 : treeOk xs with
  | false =>
    rw [e1] at q1 hv
    have Hv := Lib.hid (show v = none from hv)
    clear q2 q3 e1 hv ht1 ht2 ht3
    go_enter Tryz.func15, Tryz.ntmps15
    go_wp2_with fail
    refine Calls.mono q1 ?_
    rintro e w1 ⟨rfl, hb1⟩
    go_wp2
    go_ret2
    exact ⟨none, 0, 0, by rw [Hv.out]; rfl, hb1, by rw [Hv.out]; exact Fresh.nil _ _ _ _ _⟩
  | true =>
    rw [e1] at q1
    cases e2 : treeOk ys with
    | false =>
      rw [e2] at q2
      rw [e1, e2] at hv
      have Hv := Lib.hid (show v = none from hv)
      clear q3 e1 e2 hv ht1 ht2 ht3
      go_enter Tryz.func15, Tryz.ntmps15
      go_wp2_with fail
      refine Calls.mono q1 ?_
      rintro e w1 ⟨rfl, hb1⟩
      go_wp2_with fail
      refine Calls.mono (q2 w1 hb1) ?_
      rintro e w2 ⟨rfl, hb2⟩
      have hb12 : Below w.heap.size w w2 := hb1.trans (hb2.mono hb1.size)
      go_wp2
      go_ret2
      exact ⟨none, 0, 0, by rw [Hv.out]; rfl, hb12, by rw [Hv.out]; exact Fresh.nil _ _ _ _ _⟩
    | true =>
      rw [e2] at q2
      cases e3 : treeOk zs with
      | false =>
        rw [e3] at q3
        rw [e1, e2, e3] at hv
        have Hv := Lib.hid (show v = none from hv)
        clear e1 e2 e3 hv ht1 ht2 ht3
        go_enter Tryz.func15, Tryz.ntmps15
        go_wp2_with fail
        refine Calls.mono q1 ?_
        rintro e w1 ⟨rfl, hb1⟩
        go_wp2_with fail
        refine Calls.mono (q2 w1 hb1) ?_
        rintro e w2 ⟨rfl, hb2⟩
        have hb12 : Below w.heap.size w w2 := hb1.trans (hb2.mono hb1.size)
        go_wp2_with fail
        refine Calls.mono (q3 w2 hb12) ?_
        rintro e w3 ⟨rfl, hb3⟩
        have hb13 : Below w.heap.size w w3 := hb12.trans (hb3.mono hb12.size)
        go_wp2
        go_ret2
        exact ⟨none, 0, 0, by rw [Hv.out]; rfl, hb13, by rw [Hv.out]; exact Fresh.nil _ _ _ _ _⟩
      | true =>
        rw [e3] at q3
        rw [e1, e2, e3] at hv
        have E1 := Lib.hid e1
        have E2 := Lib.hid e2
        have E3 := Lib.hid e3
        have H1 := Lib.hid ht1
        have H2 := Lib.hid ht2
        have H3 := Lib.hid ht3
        have Hv := Lib.hid hv
        clear e1 e2 e3 hv ht1 ht2 ht3
        go_enter Tryz.func15, Tryz.ntmps15
        go_wp2_with fail
        refine Calls.mono q1 ?_
        rintro e w1 ⟨rfl, hb1⟩
        go_wp2_with fail
        refine Calls.mono (q2 w1 hb1) ?_
        rintro e w2 ⟨rfl, hb2⟩
        have hb12 : Below w.heap.size w w2 := hb1.trans (hb2.mono hb1.size)
        go_wp2_with fail
        refine Calls.mono (q3 w2 hb12) ?_
        rintro e w3 ⟨rfl, hb3⟩
        have hb4 : Below w.heap.size w w3 := hb12.trans (hb3.mono hb12.size)
        have hs4 := hb4.size
        clear q1 q2 q3 hb1 hb2 hb12 hb3
        have hp := spec_l6Join_any A1 A2 A3 n1 c1 n2 c2 n3 c3 xs ys zs w3 lo hi lo' hi' lo'' hi'' (h1.keep hb4 hh1) (h2.keep hb4 hh2) (h3.keep hb4 hh3) (Nat.le_trans hh1 hs4) (Nat.le_trans hh2 hs4) (Nat.le_trans hh3 hs4) E1.out E2.out E3.out H1.out H2.out H3.out
        obtain ⟨jp, hjp⟩ : ∃ jp, jp = joinPair xs ys zs := ⟨_, rfl⟩
        have Hvj := Lib.hid (show v = if jp.2.isEmpty = true then some jp.1 else none by rw [Hv.out, hjp]; rfl)
        rw [← hjp] at hp
        clear hjp Hv
        obtain ⟨out, bad⟩ := jp
        dsimp only at hp
        go_wp2_with fail
        refine Calls.mono hp ?_
        rintro e w5 ⟨A', n', c', A9, n9, c9, rfl, hb5, hF⟩
        have hn2 := Clashs.n hF.swap.fst.rep
        subst hn2
        have hb6 : Below w.heap.size w w5 := hb4.trans (hb5.mono hs4)
        clear hp hb5
        cases bad with
        | nil =>
          have Hf := Lib.hid (hF.fst.mono hs4 (Nat.le_refl _))
          have Hvk := Lib.hid (show v = some out from Hvj.out)
          clear hF
          go_wp2
          go_ret2
          exact ⟨_, _, _, by rw [Hvk.out]; rfl, hb6, by rw [Hvk.out]; exact Hf.out⟩
        | cons b0 bad =>
          have Hvk := Lib.hid (show v = none from Hvj.out)
          have hpos : (0 : Int) < ((b0 :: bad).length : Int) := by simp only [List.length_cons]; omega
          obtain ⟨bl, hbl⟩ : ∃ bl, bl = (b0 :: bad).length := ⟨_, rfl⟩
          rw [← hbl] at hpos ⊢
          clear hbl hF
          go_wp2
          go_ret2
          exact ⟨none, 0, 0, by rw [Hvk.out]; rfl, hb6, by rw [Hvk.out]; exact Fresh.nil _ _ _ _ _⟩
end Go.Proofs.YtgcioajaglljfaaGreatDoor
