import Derived.Test.YtenkceeicmfjhaaGreatDoorZ43
import Derived.Test.YtenkceeicmfjhaaGreatDoorJoinAt
import Derived.Test.YtenkceeicmfjhaaGreatDoorAllPaths
import Derived.Test.YtenkceeicmfjhaaGreatDoorZ25
/- Walks: JoinOf and JoinTree: the program's. Printed by wip/mk_joinof.py. -/
namespace Go.Proofs.YtenkceeicmfjhaaGreatDoor
open Go.RowKit

theorem FreshL.rot {w : World} {lo hi : Nat} {p : PV} {v : Value} {Qs : List PV} {vs : List Value} (h : FreshL w lo hi (p :: Qs) (v :: vs)) : FreshL w lo hi (Qs ++ [p]) (vs ++ [v]) := by
  obtain ⟨F, ⟨_, _, F1, F2, hu, hF, h1, h2⟩, hn, hb⟩ := h
  obtain ⟨rfl, rfl⟩ := List.cons.inj hu
  subst hF
  refine ⟨F2 ++ F1, h2.append ⟨_, _, F1, [], rfl, (List.append_nil _).symm, h1, rfl, rfl⟩, ?_, fun k hk => hb k ?_⟩
  · obtain ⟨n1, n2, n3⟩ := List.nodup_append.1 hn
    exact List.nodup_append.2 ⟨n2, n1, fun a ha b hb e => n3 b hb a ha e.symm⟩
  · exact (List.mem_append.1 hk).elim (List.mem_append_right _) (List.mem_append_left _)
theorem trees3_ok {xs ys zs : List PFile} (h : trees3 xs ys zs = true) : treeOk xs = true ∧ treeOk ys = true ∧ treeOk zs = true := by
  unfold trees3 at h
  rw [Bool.and_eq_true, Bool.and_eq_true] at h
  exact ⟨h.1, h.2.1, h.2.2⟩

set_option maxRecDepth 100000 in
set_option maxHeartbeats 8000000 in
theorem impl_JoinOf_any (A1 A2 A3 : Option Addr) (n1 c1 n2 c2 n3 c3 : Nat) (xs ys zs : List PFile) (w : World) (lo hi lo' hi' lo'' hi'' : Nat) (h1 : Rep w lo hi (encFiles xs) (.slice A1 n1 c1)) (h2 : Rep w lo' hi' (encFiles ys) (.slice A2 n2 c2)) (h3 : Rep w lo'' hi'' (encFiles zs) (.slice A3 n3 c3)) (hh1 : hi ≤ w.heap.size) (hh2 : hi' ≤ w.heap.size) (hh3 : hi'' ≤ w.heap.size) (ht1 : okTree xs) (ht2 : okTree ys) (ht3 : okTree zs) :
    Calls Tryz.prog 45 #[.slice A1 n1 c1, .slice A2 n2 c2, .slice A3 n3 c3] w fun e w' => ∃ A n c A' n' c', e = .returned (.tuple #[.slice A n c, .slice A' n' c']) ∧ Below w.heap.size w w' ∧
      FreshL w' w.heap.size w'.heap.size [encFiles (joinOf xs ys zs).1, encClashs (joinOf xs ys zs).2] [.slice A n c, .slice A' n' c'] := by
  have q1 := impl_areTrees_any A1 A2 A3 n1 c1 n2 c2 n3 c3 xs ys zs w lo hi lo' hi' lo'' hi'' h1 h2 h3 hh1 hh2 hh3 ht1 ht2 ht3
  obtain ⟨v, hv⟩ : ∃ v, v = joinOf xs ys zs := ⟨_, rfl⟩
  rw [← hv]
  unfold joinOf at hv
  cases e1 : trees3 xs ys zs with
  | false =>
    rw [e1] at q1 hv
    have Hv := Lib.hid (show v = ([], []) from hv)
    clear e1 hv ht1 ht2 ht3
    go_enter Tryz.func45, Tryz.ntmps45
    go_wp2_with fail
    refine Calls.mono q1 ?_
    rintro e w1 ⟨rfl, hb1⟩
    go_wp2
    go_ret2
    exact ⟨none, 0, 0, none, 0, 0, rfl, hb1, by rw [Hv.out]; exact FreshL.cons (Fresh.nil _ _ _ _ _) (Fresh.one (Fresh.nil _ _ _ _ _)) (Nat.le_refl _) hb1.size⟩
  | true =>
    rw [e1] at q1 hv
    have Hv0 := Lib.hid (show v = joinPair xs ys zs from hv)
    obtain ⟨t1, t2, t3⟩ := trees3_ok e1
    obtain ⟨ih, gi0, gi1, gi2, gi3⟩ := info_parts Tryz.infoFile
    obtain ⟨iq, ci0, ci1, ci2, ci3⟩ := info_parts Tryz.infoClash
    have h8x := (treeOk_iff.1 t1).1
    have h8y := (treeOk_iff.1 t2).1
    have h8z := (treeOk_iff.1 t3).1
    have HX := Lib.hid (smallTree_ok t1)
    have HY := Lib.hid (smallTree_ok t2)
    have HZ := Lib.hid (smallTree_ok t3)
    have hoT0 := Lib.hid (okTree_joinOut ht1 ht2 ht3)
    have hpl := paths3_len xs ys zs
    obtain ⟨ps, hps⟩ : ∃ ps, ps = paths3 xs ys zs := ⟨_, rfl⟩
    rw [← hps] at hpl hoT0
    have Hps := Lib.hid hps
    clear hv e1 t1 t2 t3 ht1 ht2 ht3 hps
    go_enter Tryz.func45, Tryz.ntmps45
    go_wp2_with fail
    refine Calls.mono q1 ?_
    rintro e w1 ⟨rfl, hb1⟩
    have hs1 := hb1.size
    clear q1
    have hbo : Below w1.heap.size w1 (w1.alloc (.cells #[.slice A1 n1 c1, .slice A2 n2 c2, .slice A3 n3 c3] 27)) := (Below.refl _ _).alloc (Nat.le_refl _) _
    have hbo' := hb1.trans (hbo.mono hs1)
    have hap := impl_allPaths_any w1.heap.size 3 A1 A2 A3 n1 c1 n2 c2 n3 c3 xs ys zs (w1.alloc (.cells #[.slice A1 n1 c1, .slice A2 n2 c2, .slice A3 n3 c3] 27)) lo hi lo' hi' lo'' hi'' (h1.keep hbo' hh1) (h2.keep hbo' hh2) (h3.keep hbo' hh3) (Nat.le_trans hh1 hbo'.size) (Nat.le_trans hh2 hbo'.size) (Nat.le_trans hh3 hbo'.size) h8x h8y h8z (by simp [go_sem]) (by simp [go_sem]) (by simp [go_sem])
    rw [← Hps.out] at hap
    go_wp2_with fail
    refine Calls.mono hap ?_
    rintro e w5 ⟨Ap, np, cp, rfl, hb5, hfp⟩
    clear hap
    have hb6 : Below w.heap.size w w5 := hbo'.trans (hb5.mono hbo'.size)
    have hrp : Rep w5 w.heap.size w5.heap.size (encText ps) (.slice Ap np cp) := (hfp.mono hbo'.size (Nat.le_refl _)).rep
    have hnp := Text.n hrp
    obtain ⟨hcp, hmp⟩ := Text.cap hrp
    subst hnp
    have hs6 := hb6.size
    clear hb5 hbo hbo' hfp hb1 hs1
    have r1 := h1.keep hb6 hh1
    have r2 := h2.keep hb6 hh2
    have r3 := h3.keep hb6 hh3
    have hi1 : hi ≤ w5.heap.size := by omega
    have hi2 : hi' ≤ w5.heap.size := by omega
    have hi3 : hi'' ≤ w5.heap.size := by omega
    go_wp2
    go_loopw [8, 9, 25] (fun t u i wr => ∃ (k : Nat) (out : List PFile) (bad : List PClash) (A' : Option Addr) (c' : Nat) (A9 : Option Addr) (c9 : Nat), k ≤ ps.length ∧ t = .slice A' out.length c' ∧ u = .slice A9 bad.length c9 ∧ i = .int .i64 k ∧ Hid (out = joinOut xs ys zs (ps.take k)) ∧ Hid (bad = joinBad xs ys zs (ps.take k)) ∧
        FreshL wr w5.heap.size wr.heap.size [encFiles out, encClashs bad] [.slice A' out.length c', .slice A9 bad.length c9] ∧ Below w5.heap.size w5 wr) (fun _ _ i _ => ps.length - (intOf i).toNat)
    case atStart => exact ⟨0, [], [], none, 0, none, 0, Nat.zero_le _, rfl, rfl, rfl, Lib.hid rfl, Lib.hid rfl, FreshL.cons (Fresh.nil _ _ _ _ _) (Fresh.one (Fresh.nil _ _ _ _ _)) (Nat.le_refl _) (Nat.le_refl _), Below.refl _ _⟩
    case round =>
      obtain ⟨k, out, bad, A', c', A9, c9, hk, rfl, rfl, rfl, hout, hbad, hFo, hb⟩ := hrel
      have hsz := hb.size
      obtain ⟨wo, rfl⟩ : ∃ wo : World, wo = wr := ⟨_, rfl⟩
      have hol : out.length ≤ 24 := by
        have := joinOut_len xs ys zs (ps.take k)
        rw [← hout.out, List.length_take] at this
        omega
      have hbl : bad.length ≤ 24 := by
        have := joinBad_len xs ys zs (ps.take k)
        rw [← hbad.out, List.length_take] at this
        omega
      by_cases hkn : k < ps.length
      · have hkn' : (k : Int) < (ps.length : Int) := by omega
        obtain ⟨bp, op, p, rfl, _, _, hpk, hcell⟩ := Text.at (hrp.keep hb (Nat.le_refl _)) hkn
        have Hno := Lib.hid (show joinOut xs ys zs (ps.take (k + 1)) = out ++ outOne p (joinHere xs ys zs p) by rw [joinOut_next hpk, hout.out])
        have Hnb := Lib.hid (show joinBad xs ys zs (ps.take (k + 1)) = bad ++ badOne p (joinHere xs ys zs p) by rw [joinBad_next hpk, hbad.out])
        clear hpk hout hbad
        have g1 := impl_hasAt_any A1 n1 c1 xs p wo lo hi (r1.keep hb hi1) (Nat.le_trans hi1 hsz) HX.out
        have g2 := fun w' (h9 : Below wo.heap.size wo w') => impl_hasAt_any A2 n2 c2 ys p w' lo' hi' ((r2.keep hb hi2).keep h9 (Nat.le_trans hi2 hsz)) (Nat.le_trans hi2 (Nat.le_trans hsz h9.size)) HY.out
        have g3 := fun w' (h9 : Below wo.heap.size wo w') => impl_hasAt_any A3 n3 c3 zs p w' lo'' hi'' ((r3.keep hb hi3).keep h9 (Nat.le_trans hi3 hsz)) (Nat.le_trans hi3 (Nat.le_trans hsz h9.size)) HZ.out
        have hrr : joinHere xs ys zs p = joinAt (getAt xs p) (getAt ys p) (getAt zs p) := rfl
        obtain ⟨o, ho⟩ : ∃ o, o = getAt xs p := ⟨_, rfl⟩
        obtain ⟨a, ha⟩ : ∃ a, a = getAt ys p := ⟨_, rfl⟩
        obtain ⟨b, hb9⟩ : ∃ b, b = getAt zs p := ⟨_, rfl⟩
        rw [← ho] at g1 hrr
        rw [← ha] at g2 hrr
        rw [← hb9] at g3 hrr
        clear ho ha hb9
        have Hrr := Lib.hid hrr
        clear hrr
        go_wp2_with fail
        refine Calls.mono g1 ?_
        rintro e w6 ⟨B1, m1, d1, rfl, hb61, hf6⟩
        have hz6 := hb61.size
        go_wp2_with fail
        refine Calls.mono (g2 w6 hb61) ?_
        rintro e w7 ⟨B2, m2, d2, rfl, hb71, hf7⟩
        have hz7 := hb71.size
        have hb72 : Below wo.heap.size wo w7 := hb61.trans (hb71.mono hz6)
        go_wp2_with fail
        refine Calls.mono (g3 w7 hb72) ?_
        rintro e w8 ⟨B3, m3, d3, rfl, hb81, hf8⟩
        have hz8 := hb81.size
        have hb82 : Below wo.heap.size wo w8 := hb72.trans (hb81.mono (Nat.le_trans hz6 hz7))
        have f1 : Fresh w8 wo.heap.size w8.heap.size (encText (o.getD [])) (.slice B1 m1 d1) := ((hf6.keep hb71 (Nat.le_refl _)).keep hb81 hz7).mono (Nat.le_refl _) (Nat.le_trans hz7 hz8)
        have f2 : Fresh w8 wo.heap.size w8.heap.size (encText (a.getD [])) (.slice B2 m2 d2) := (hf7.keep hb81 (Nat.le_refl _)).mono hz6 hz8
        have f3 : Fresh w8 wo.heap.size w8.heap.size (encText (b.getD [])) (.slice B3 m3 d3) := hf8.mono (Nat.le_trans hz6 hz7) (Nat.le_refl _)
        have hja := impl_joinAt_any B1 B2 B3 m1 d1 m2 d2 m3 d3 o a b w8 wo.heap.size hb82.size f1 f2 f3
        rw [← Hrr.out] at hja
        obtain ⟨r, hr⟩ : ∃ r, r = joinHere xs ys zs p := ⟨_, rfl⟩
        rw [← hr] at hja
        obtain ⟨rt, rk⟩ := r
        have Hr := Lib.hid hr.symm
        dsimp only at hja
        clear hr g1 g2 g3 f1 f2 f3 hf6 hf7 hf8 Hrr hb61 hb71 hb72 hb81
        go_wp2_with fail
        refine Calls.mono hja ?_
        rintro e w9 ⟨A9t, n9t, c9t, rfl, hb91, hf9⟩
        clear hja
        have hb92 : Below wo.heap.size wo w9 := hb82.trans (hb91.mono hb82.size)
        have hz9 := hb92.size
        obtain ⟨W, hW⟩ : ∃ W : World, W = w9.alloc (.cells #[.slice A9t n9t c9t, .bool rt.isSome] 104) := ⟨_, rfl⟩
        have hWb : Below w9.heap.size w9 W := by rw [hW]; exact (Below.refl _ _).alloc (Nat.le_refl _) _
        have hoW : Below wo.heap.size wo W := hb92.trans (hWb.mono hz9)
        have s0 : W.cell? ⟨w9.heap.size, 0, none⟩ = some (.slice A9t n9t c9t) := by rw [hW]; simp [go_sem]
        have s1 : W.cell? ⟨w9.heap.size, 1, none⟩ = some (.bool rt.isSome) := by rw [hW]; simp [go_sem]
        have hgW : w9.heap.size < W.heap.size := by rw [hW]; simp
        have hfW : Fresh W wo.heap.size W.heap.size (encText (rt.getD [])) (.slice A9t n9t c9t) := (hf9.keep hWb (Nat.le_refl _)).mono (Nat.le_refl _) hWb.size
        have hL0 : FreshL W w5.heap.size wo.heap.size [encFiles out, encClashs bad] [.slice A' out.length c', .slice A9 bad.length c9] := hFo.kept hoW (Nat.le_refl _)
        have hL2 : FreshL W w5.heap.size W.heap.size [encClashs bad, encFiles out] [.slice A9 bad.length c9, .slice A' out.length c'] := (hL0.mono (Nat.le_refl _) hoW.size).swap
        have hbV : Below w5.heap.size w5 W := hb.trans (hoW.mono hsz)
        have hL3 : FreshL W w5.heap.size W.heap.size ([encClashs bad, encFiles out] ++ [encText (rt.getD [])]) ([.slice A9 bad.length c9, .slice A' out.length c'] ++ [.slice A9t n9t c9t]) := hL0.swap.append hfW.one hsz hoW.size
        go_upto_region 9 with fail
        rw [← hW]
        clear hW hWb hf9 hb91 hb92 hb82 hfW hL0
        cases rt with
        | none =>
          rw [Option.isSome_none] at s1
          by_cases hk0 : rk = 0
          · subst hk0
            have Hbad : Hid (bad = joinBad xs ys zs (ps.take (k + 1))) := Lib.hid (by rw [Hnb.out, Hr.out]; simp [badOne])
            go_wp2
            go_roundw
            case rel => exact ⟨k + 1, out, bad, A', c', A9, c9, by omega, rfl, rfl, by go_num, Lib.hid (by rw [Hno.out, Hr.out]; simp [outOne]), Hbad, hL2.swap, hbV⟩
            case measure => first | (simp [intOf]; done) | (simp [intOf]; omega)
          · have hkp : (rk == 0) = false := by simpa using hk0
            have hkq : (rk != 0) = true := by simpa using hk0
            have Hbad : Hid (bad ++ [⟨p, rk⟩] = joinBad xs ys zs (ps.take (k + 1))) := Lib.hid (by rw [Hnb.out, Hr.out]; simp [badOne, hk0])
            clear hbV
            go_wp2_with (at_builtin; go_loud (refine wpList_pushK rfl (.tmp 44) (.tmp 48) _ rfl w5.heap.size 79 iq _ 2 24 Tryz.underlying44 ci0 ci1 ci2 ci3 rfl (by omega) W W _ _ _ A9 bad.length c9 hL2 (Nat.le_trans hsz hoW.size) (Below.refl _ _) [.string ⟨p.toArray⟩, .int .i64 rk] (cClashs ⟨p, rk⟩) (FreshL.plain ⟨rfl, rfl⟩ (FreshL.plain ⟨rfl, rfl⟩ (FreshL.nil _ _ _))) rfl rfl rfl _ 1 rfl rfl (by intro u hu; simp at hu; rcases hu with rfl | rfl <;> rfl) (by unfold maxLen; omega) (by omega) ?_))
            intro A7 c7 w7 hF7 hB7 hlt7 hkp7 hnb7
            rw [Clashs.snoc] at hF7
            have hbV : Below w5.heap.size w5 w7 := (hb.trans (hoW.mono hsz)).trans hB7
            have hkg := hkp7 w9.heap.size hgW (fun e9 => by have := (hFo.swap.blk w9.heap.size e9).2; omega)
            have e0 : w7.cell? ⟨w9.heap.size, 0, none⟩ = some (.slice A9t n9t c9t) := (World.cell?_of_block (a := ⟨w9.heap.size, 0, none⟩) hkg).trans s0
            have e1 : w7.cell? ⟨w9.heap.size, 1, none⟩ = some (.bool false) := (World.cell?_of_block (a := ⟨w9.heap.size, 1, none⟩) hkg).trans s1
            have hbl2 : (bad ++ [(⟨p, rk⟩ : PClash)]).length = bad.length + 1 := by simp
            clear hkp7 hnb7 hkg hB7 s0 s1 hL2 hL3 hk0
            rw [← hbl2] at hF7 ⊢
            obtain ⟨bad2, hbad2⟩ : ∃ bad2, bad2 = bad ++ [(⟨p, rk⟩ : PClash)] := ⟨_, rfl⟩
            rw [← hbad2] at hF7 Hbad ⊢
            clear hbad2 hbl2
            go_wp2
            go_roundw
            case rel => exact ⟨k + 1, out, bad2, A', c', A7, c7, by omega, rfl, rfl, by go_num, Lib.hid (by rw [Hno.out, Hr.out]; simp [outOne]), Hbad, hF7.swap, hbV⟩
            case measure => first | (simp [intOf]; done) | (simp [intOf]; omega)
        | some t =>
          rw [Option.isSome_some] at s1
          rw [Option.getD_some] at hL3
          by_cases hk0 : rk = 0
          · subst hk0
            have Hbad : Hid (bad = joinBad xs ys zs (ps.take (k + 1))) := Lib.hid (by rw [Hnb.out, Hr.out]; simp [badOne])
            go_wp2_with (at_builtin; go_loud (refine wpList_pushTake rfl (.tmp 52) (.tmp 57) _ rfl w5.heap.size 61 ih _ 2 40 Tryz.underlying27 gi0 gi1 gi2 gi3 rfl (by omega) W _ _ (encText t) _ _ A' out.length c' hL3.rot hbV.size [.string ⟨p.toArray⟩, .slice A9t n9t c9t] (cFiles ⟨p, t⟩) (fun _ F hO => ⟨_, _, [], F, rfl, rfl, ⟨rfl, rfl⟩, _, _, F, [], rfl, (List.append_nil _).symm, hO, rfl, rfl⟩) rfl rfl rfl _ 1 rfl rfl (by intro u hu; simp at hu; rcases hu with rfl | rfl <;> rfl) (by unfold maxLen; omega) (by omega) ?_))
            intro A8 c8 w8 hF8 hB8 hlt8
            rw [Files.snoc] at hF8
            have hol2 : (out ++ [(⟨p, t⟩ : PFile)]).length = out.length + 1 := by simp
            rw [← hol2] at hF8
            clear hol2
            have Hf8 := Lib.hid hF8
            have hb8 := hbV.trans hB8
            clear hF8 hB8
            go_wp2
            go_roundw
            case rel => exact ⟨k + 1, out ++ [(⟨p, t⟩ : PFile)], bad, A8, c8, A9, c9, by omega, by simp, rfl, by go_num, Lib.hid (by rw [Hno.out, Hr.out]; simp [outOne]), Hbad, Hf8.out, hb8⟩
            case measure => first | (simp [intOf]; done) | (simp [intOf]; omega)
          · have hkp : (rk == 0) = false := by simpa using hk0
            have hkq : (rk != 0) = true := by simpa using hk0
            have Hbad : Hid (bad ++ [⟨p, rk⟩] = joinBad xs ys zs (ps.take (k + 1))) := Lib.hid (by rw [Hnb.out, Hr.out]; simp [badOne, hk0])
            clear hbV
            go_wp2_with (at_builtin; go_loud (refine wpList_pushK rfl (.tmp 44) (.tmp 48) _ rfl w5.heap.size 79 iq _ 2 24 Tryz.underlying44 ci0 ci1 ci2 ci3 rfl (by omega) W W _ _ _ A9 bad.length c9 hL3 (Nat.le_trans hsz hoW.size) (Below.refl _ _) [.string ⟨p.toArray⟩, .int .i64 rk] (cClashs ⟨p, rk⟩) (FreshL.plain ⟨rfl, rfl⟩ (FreshL.plain ⟨rfl, rfl⟩ (FreshL.nil _ _ _))) rfl rfl rfl _ 1 rfl rfl (by intro u hu; simp at hu; rcases hu with rfl | rfl <;> rfl) (by unfold maxLen; omega) (by omega) ?_))
            intro A7 c7 w7 hF7 hB7 hlt7 hkp7 hnb7
            rw [Clashs.snoc] at hF7
            have hbV : Below w5.heap.size w5 w7 := (hb.trans (hoW.mono hsz)).trans hB7
            have hkg := hkp7 w9.heap.size hgW (fun e9 => by have := (hFo.swap.blk w9.heap.size e9).2; omega)
            have e0 : w7.cell? ⟨w9.heap.size, 0, none⟩ = some (.slice A9t n9t c9t) := (World.cell?_of_block (a := ⟨w9.heap.size, 0, none⟩) hkg).trans s0
            have e1 : w7.cell? ⟨w9.heap.size, 1, none⟩ = some (.bool true) := (World.cell?_of_block (a := ⟨w9.heap.size, 1, none⟩) hkg).trans s1
            have hbl2 : (bad ++ [(⟨p, rk⟩ : PClash)]).length = bad.length + 1 := by simp
            clear hkp7 hnb7 hkg hB7 s0 s1 hL2 hL3 hk0
            rw [← hbl2] at hF7 ⊢
            obtain ⟨bad2, hbad2⟩ : ∃ bad2, bad2 = bad ++ [(⟨p, rk⟩ : PClash)] := ⟨_, rfl⟩
            rw [← hbad2] at hF7 Hbad ⊢
            clear hbad2 hbl2
            go_wp2_with (at_builtin; go_loud (refine wpList_pushTake rfl (.tmp 52) (.tmp 57) _ rfl w5.heap.size 61 ih _ 2 40 Tryz.underlying27 gi0 gi1 gi2 gi3 rfl (by omega) w7 _ _ (encText t) _ _ A' out.length c' hF7.rot hbV.size [.string ⟨p.toArray⟩, .slice A9t n9t c9t] (cFiles ⟨p, t⟩) (fun _ F hO => ⟨_, _, [], F, rfl, rfl, ⟨rfl, rfl⟩, _, _, F, [], rfl, (List.append_nil _).symm, hO, rfl, rfl⟩) rfl rfl rfl _ 1 rfl rfl (by intro u hu; simp at hu; rcases hu with rfl | rfl <;> rfl) (by unfold maxLen; omega) (by omega) ?_))
            intro A8 c8 w8 hF8 hB8 hlt8
            rw [Files.snoc] at hF8
            have hol2 : (out ++ [(⟨p, t⟩ : PFile)]).length = out.length + 1 := by simp
            rw [← hol2] at hF8
            clear hol2
            have Hf8 := Lib.hid hF8
            have hb8 := hbV.trans hB8
            clear hF8 hB8
            go_wp2
            go_roundw
            case rel => exact ⟨k + 1, out ++ [(⟨p, t⟩ : PFile)], bad2, A8, c8, A7, c7, by omega, by simp, rfl, by go_num, Lib.hid (by rw [Hno.out, Hr.out]; simp [outOne]), Hbad, Hf8.out, hb8⟩
            case measure => first | (simp [intOf]; done) | (simp [intOf]; omega)
      · obtain rfl : k = ps.length := by omega
        have hbV : Below w.heap.size w wo := hb6.trans (hb.mono hs6)
        have Hout := Lib.hid (show out = joinOut xs ys zs (paths3 xs ys zs) by rw [hout.out, List.take_length, Hps.out])
        have Hbad := Lib.hid (show bad = joinBad xs ys zs (paths3 xs ys zs) by rw [hbad.out, List.take_length, Hps.out])
        have hoT := Lib.hid (show okTree out by have := hoT0.out; rw [List.take_length] at hout; rw [hout.out]; exact this)
        have hbase : w.heap.size ≤ w5.heap.size := hs6
        have hF := hFo
        clear hFo hout hbad
        by_cases hbe : bad = []
        · subst hbe
          have hq := impl_TreeOk_any A' out.length c' out wo _ _ hF.fst.rep (Nat.le_refl _) hoT.out
          obtain ⟨tk, htk⟩ : ∃ tk, tk = treeOk out := ⟨_, rfl⟩
          rw [← htk] at hq
          have Htk := Lib.hid htk
          clear htk
          go_wp2_with fail
          refine Calls.mono hq ?_
          rintro e w6 ⟨rfl, hb6⟩
          have hs6 := hb6.size
          clear hq
          cases tk with
          | true =>
            have Hv := Lib.hid (show joinPair xs ys zs = (out, []) by unfold joinPair; rw [← Hout.out, ← Hbad.out, ← Htk.out]; rfl)
            go_wp2
            go_ret2
            rw [Hv0.out, Hv.out]
            exact ⟨_, _, _, _, _, _, rfl, hbV.trans (hb6.mono hbV.size), ((hF.kept hb6 (Nat.le_refl _)).mono hbase hs6)⟩
          | false =>
            have Hv := Lib.hid (show joinPair xs ys zs = (xs, [⟨[], 4⟩]) by unfold joinPair; rw [← Hout.out, ← Hbad.out, ← Htk.out]; rfl)
            have hbw6 : Below w.heap.size w w6 := hbV.trans (hb6.mono hbV.size)
            have hcp := impl_copyTree_any A1 n1 c1 xs w6 lo hi (h1.keep hbw6 hh1) (Nat.le_trans hh1 hbw6.size) HX.out
            clear hF
            go_wp2_with fail
            refine Calls.mono hcp ?_
            rintro e w7 ⟨A7, n7, c7, rfl, hb7, hf7⟩
            have hs7 := hb7.size
            have hbw7 : Below w.heap.size w w7 := hbw6.trans (hb7.mono hbw6.size)
            have Hf7 := Lib.hid hf7
            have Hb7 := Lib.hid hbw7
            have hzz := hbw6.size
            clear hcp hf7 hb7 hbw6 hbw7 hb6
            go_wp2
            go_ret2
            rw [Hv0.out, Hv.out]
            have k1 : Fresh (w7.alloc (.cells #[.string ⟨#[]⟩, .int .i64 4] 79)) w7.heap.size (w7.heap.size + 1) (encClashs [⟨[], 4⟩]) (.slice (some ⟨w7.heap.size, 0, none⟩) 1 1) := by
              have h8 : (w7.alloc (.cells #[.string ⟨#[]⟩, .int .i64 4] 79)).ownsRow w7.heap.size 79 2 (.slice (some ⟨w7.heap.size, 0, none⟩) 1 1) 1 [.string ⟨#[]⟩, .int .i64 4] :=
                ⟨rfl, .inr ⟨w7.heap.size, 1, #[.string ⟨#[]⟩, .int .i64 4], rfl, Nat.le_refl _, heap_new' w7 _, Nat.le_refl _, by unfold maxLen; omega, rfl, rfl⟩⟩
              have h9 : Fresh _ _ _ (.sl 79 2 (cClashs ⟨[], 4⟩)) _ := Fresh.of_row h8 ⟨_, _, [], [], rfl, rfl, ⟨rfl, rfl⟩, _, _, [], [], rfl, rfl, ⟨rfl, rfl⟩, rfl, rfl⟩
              have h10 : Fresh (w7.alloc (.cells #[.string ⟨#[]⟩, .int .i64 4] 79)) w7.heap.size (w7.heap.size + 1) (.sl 79 2 (cClashs ⟨[], 4⟩)) (.slice (some ⟨w7.heap.size, 0, none⟩) 1 1) := by simpa using h9
              exact h10
            have hsz8 : (w7.alloc (.cells #[.string ⟨#[]⟩, .int .i64 4] 79)).heap.size = w7.heap.size + 1 := by simp
            refine ⟨_, _, _, _, _, _, rfl, Hb7.out.alloc Hb7.out.size _, ?_⟩
            rw [hsz8]
            exact FreshL.cons ((Hf7.out.same ((Same.refl _ _ _).alloc (Nat.le_refl _) _)).mono hzz (Nat.le_refl _)) k1.one Hb7.out.size (Nat.le_succ _)
        · have hbn : ((bad.length : Int) == 0) = false := by
            have : bad.length ≠ 0 := fun e => hbe (List.length_eq_zero_iff.1 e)
            simp
            omega
          have Hv := Lib.hid (show joinPair xs ys zs = (out, bad) by unfold joinPair; rw [← Hout.out, ← Hbad.out]; simp [hbe])
          have hbn2 : ¬ (bad.length : Int) = 0 := by simpa using hbn
          clear hbe
          go_wp2
          go_ret2
          rw [Hv0.out, Hv.out]
          exact ⟨_, _, _, _, _, _, rfl, hbV, hF.mono hbase (Nat.le_refl _)⟩

set_option maxRecDepth 100000 in
set_option maxHeartbeats 4000000 in
theorem impl_JoinTree_any (A1 A2 A3 : Option Addr) (n1 c1 n2 c2 n3 c3 : Nat) (xs ys zs : List PFile) (w : World) (lo hi lo' hi' lo'' hi'' : Nat) (h1 : Rep w lo hi (encFiles xs) (.slice A1 n1 c1)) (h2 : Rep w lo' hi' (encFiles ys) (.slice A2 n2 c2)) (h3 : Rep w lo'' hi'' (encFiles zs) (.slice A3 n3 c3)) (hh1 : hi ≤ w.heap.size) (hh2 : hi' ≤ w.heap.size) (hh3 : hi'' ≤ w.heap.size) (ht1 : okTree xs) (ht2 : okTree ys) (ht3 : okTree zs) :
    Calls Tryz.prog 23 #[.slice A1 n1 c1, .slice A2 n2 c2, .slice A3 n3 c3] w fun e w' => ∃ A n c, e = .returned (.tuple #[.slice A n c, .bool (joinTree xs ys zs).isSome]) ∧ Below w.heap.size w w' ∧ Fresh w' w.heap.size w'.heap.size (encFiles ((joinTree xs ys zs).getD [])) (.slice A n c) := by
  have q1 := impl_areTrees_any A1 A2 A3 n1 c1 n2 c2 n3 c3 xs ys zs w lo hi lo' hi' lo'' hi'' h1 h2 h3 hh1 hh2 hh3 ht1 ht2 ht3
  obtain ⟨v, hv⟩ : ∃ v, v = joinTree xs ys zs := ⟨_, rfl⟩
  rw [← hv]
  unfold joinTree at hv
  cases e1 : trees3 xs ys zs with
  | false =>
    rw [e1] at q1 hv
    have Hv := Lib.hid (show v = none from hv)
    clear e1 hv ht1 ht2 ht3
    go_enter Tryz.func23, Tryz.ntmps23
    go_wp2_with fail
    refine Calls.mono q1 ?_
    rintro e w1 ⟨rfl, hb1⟩
    go_wp2
    go_ret2
    exact ⟨none, 0, 0, by rw [Hv.out]; rfl, hb1, by rw [Hv.out]; exact Fresh.nil _ _ _ _ _⟩
  | true =>
    rw [e1] at q1 hv
    have hjo : joinOf xs ys zs = joinPair xs ys zs := by unfold joinOf; rw [e1]; rfl
    have Hv := Lib.hid hv
    have hcall := fun w' (hb4 : Below w.heap.size w w') => impl_JoinOf_any A1 A2 A3 n1 c1 n2 c2 n3 c3 xs ys zs w' lo hi lo' hi' lo'' hi'' (h1.keep hb4 hh1) (h2.keep hb4 hh2) (h3.keep hb4 hh3) (Nat.le_trans hh1 hb4.size) (Nat.le_trans hh2 hb4.size) (Nat.le_trans hh3 hb4.size) ht1 ht2 ht3
    rw [hjo] at hcall
    clear e1 hv ht1 ht2 ht3 hjo
    go_enter Tryz.func23, Tryz.ntmps23
    go_wp2_with fail
    refine Calls.mono q1 ?_
    rintro e w1 ⟨rfl, hb4⟩
    have hs4 := hb4.size
    have hp := hcall w1 hb4
    clear q1 hcall
    obtain ⟨jp, hjp⟩ : ∃ jp, jp = joinPair xs ys zs := ⟨_, rfl⟩
    have Hvj := Lib.hid (show v = if jp.2.isEmpty = true then some jp.1 else none by rw [Hv.out, hjp]; rfl)
    rw [← hjp] at hp
    clear hjp Hv
    obtain ⟨out, bad⟩ := jp
    dsimp only at hp
    go_wp2_with fail
    refine Calls.mono hp ?_
    rintro e w5 ⟨A', n', c', A9, n9, c9, rfl, hb5, hF⟩
    have hn2 := Clashs.n hF.swap.fst.rep
    subst hn2
    have hb6 : Below w.heap.size w w5 := hb4.trans (hb5.mono hs4)
    clear hp hb5
    cases bad with
    | nil =>
      have Hf := Lib.hid (hF.fst.mono hs4 (Nat.le_refl _))
      have Hvk := Lib.hid (show v = some out from Hvj.out)
      clear hF
      go_wp2
      go_ret2
      exact ⟨_, _, _, by rw [Hvk.out]; rfl, hb6, by rw [Hvk.out]; exact Hf.out⟩
    | cons b0 bad =>
      have Hvk := Lib.hid (show v = none from Hvj.out)
      have hpos : (0 : Int) < ((b0 :: bad).length : Int) := by simp only [List.length_cons]; omega
      obtain ⟨bl, hbl⟩ : ∃ bl, bl = (b0 :: bad).length := ⟨_, rfl⟩
      rw [← hbl] at hpos ⊢
      clear hbl hF
      go_wp2
      go_ret2
      exact ⟨none, 0, 0, by rw [Hvk.out]; rfl, hb6, by rw [Hvk.out]; exact Fresh.nil _ _ _ _ _⟩
end Go.Proofs.YtenkceeicmfjhaaGreatDoor
