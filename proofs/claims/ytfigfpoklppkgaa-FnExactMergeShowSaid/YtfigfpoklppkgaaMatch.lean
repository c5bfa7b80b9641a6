/- Walks: the alignment of two texts, the program's and the reference's. -/
import Derived.Test.YtfigfpoklppkgaaLcs2
import Derived.Test.YtfigfpoklppkgaaDiffPlain
import Derived.Test.YtfigfpoklppkgaaLit
namespace Go.Proofs.Ytfigfpoklppkgaa
open Go.RowKit

set_option maxRecDepth 100000 in
set_option maxHeartbeats 1600000 in
theorem impl_match_any (A1 A2 : Option Addr) (n1 c1 n2 c2 : Nat) (xs ys : List Str) (w : World) (lo hi lo' hi' : Nat) (h1 : Rep w lo hi (encText xs) (.slice A1 n1 c1)) (h2 : Rep w lo' hi' (encText ys) (.slice A2 n2 c2))
    (hh1 : hi ≤ w.heap.size) (hh2 : hi' ≤ w.heap.size) (hx : xs.length ≤ 1048576) (hy : ys.length ≤ 1048576) :
    Calls Try.prog 23 #[.slice A1 n1 c1, .slice A2 n2 c2] w fun e w' => ∃ A n c, e = .returned (.slice A n c) ∧ Below w.heap.size w w' ∧ Fresh w' w.heap.size w'.heap.size (encInts (mtch xs ys 0)) (.slice A n c) := by
  have hl1 := Text.n h1
  have hl2 := Text.n h2
  obtain ⟨hc1, hm1⟩ := Text.cap h1
  obtain ⟨hc2, hm2⟩ := Text.cap h2
  subst hl1 hl2
  obtain ⟨i, hi0, hi1, hi2, hi3⟩ := info_parts Try.infoInt
  go_enter Try.func23, Try.ntmps23
  go_wp2_with fail
  refine Calls.mono (impl_lcs_any _ _ _ _ _ _ xs ys w lo hi lo' hi' h1 h2 hh1 hh2 hx hy) ?_
  rintro e w1 ⟨gt, ct, G, rfl, hb1, hG, hgrid1⟩
  have hs1 := hb1.size
  go_wp2
  go_loopw [6, 7, 8] (fun t i j wr => ∃ (k l : Nat) (done : List Int) (A' : Option Addr) (c' : Nat), k ≤ xs.length ∧ l ≤ ys.length ∧ t = .slice A' done.length c' ∧ i = .int .i64 k ∧ j = .int .i64 l ∧ done.length ≤ k ∧
      wr.ownsRow w1.heap.size 3 1 (.slice A' done.length c') done.length (done.map fun s => .int .i64 s) ∧ Hid (done ++ mtch (xs.drop k) (ys.drop l) l = mtch xs ys 0) ∧ Below w1.heap.size w1 wr) (fun _ i j _ => xs.length - (intOf i).toNat + (ys.length - (intOf j).toNat))
  case atStart => exact ⟨0, 0, [], _, _, Nat.zero_le _, Nat.zero_le _, rfl, rfl, rfl, Nat.le_refl _, World.ownsRow_nil _ _ _ _, Lib.hid (by simp), Below.refl _ _⟩
  case round =>
    obtain ⟨k, l, done, A', c', hk, hl, rfl, rfl, rfl, hd, hown, ht, hb⟩ := hrel
    by_cases hkn : k < xs.length
    · have hkn' : (k : Int) < (xs.length : Int) := by omega
      have hkn1 : (k : Int) < (xs.length : Int) + 1 := by omega
      have hkn2 : (k : Int) + 1 < (xs.length : Int) + 1 := by omega
      have hw := hb1.trans (hb.mono hs1)
      have hgrid := hgrid1.keep (w' := wr) (fun q _ hq => hb.block q hq)
      obtain ⟨b1, o1, s1, rfl, _, _, hx1, hcell1⟩ := Text.at (h1.keep hw hh1) hkn
      by_cases hlt : l < ys.length
      · have hlt' : (l : Int) < (ys.length : Int) := by omega
        have hlt1 : (l : Int) < (ys.length : Int) + 1 := by omega
        have hlt2 : (l : Int) + 1 < (ys.length : Int) + 1 := by omega
        have hle' : ((l : Int) == (ys.length : Int)) = false := by simp; omega
        have hge' : decide (ys.length ≤ l) = false := by simp; omega
        obtain ⟨b2, o2, s2, rfl, _, _, hx2, hcell2⟩ := Text.at (h2.keep hw hh2) hlt
        by_cases he : s1 = s2
        · have hst := mtch_same hx1 hx2 he
          have Hst := Lib.hid hst
          have hbe : (s1 == s2) = true := by simp [he]
          clear hst hx1 hx2
          go_wp2
          go_quiet (fail)
          have hown' : (wr.drewN nq).ownsRow w1.heap.size 3 1 (.slice A' done.length c') done.length (done.map fun s => .int .i64 s) := hown
          have hs3 := hb.size
          go_wp2_with (at_builtin; refine wpList_append_src _ rfl (.tmp 34) (.tmp 36) _ rfl w1.heap.size 3 i _ 1 8 Try.underlying36 hi0 hi1 hi2 hi3 rfl (by omega) _ done.length _ rfl (hown'.alloc _) _ 1 1 [.int .i64 (l : Int)] rfl (Src.lit (wr.drewN nq) 3 [.int .i64 (l : Int)] 1 1 rfl) ?e2 ?e3 ?e4 ?e5 ?_)
          case e2 => intro u hu; simp at hu; subst hu; rfl
          case e3 => unfold maxLen; omega
          case e4 => omega
          case e5 => simp; omega
          intro A2' c2' w3 hown3 hg3 _
          have hbA : Below w1.heap.size w1 ((wr.drewN nq).alloc (Obj.cells #[.int .i64 (l : Int)] 3)) := Below.alloc (below_drewN hb _) (by simpa using hb.size) _
          have hb3 : Below w1.heap.size w1 w3 := hbA.grown hg3 (by simp; omega) (fun g hg => (hown'.lt g hg).1)
          have hm3 : (done.map fun s => (.int .i64 s : Value)) ++ [.int .i64 (l : Int)] = (done ++ [(l : Int)]).map fun s => .int .i64 s := by simp
          rw [hm3] at hown3
          go_wp2
          go_roundw
          case rel => exact ⟨k + 1, l + 1, done ++ [(l : Int)], _, _, by omega, by omega, by rw [List.length_append]; rfl, by go_num, by go_num, by simp; omega, by rw [List.length_append]; exact hown3, Lib.hid (by rw [List.append_assoc, List.singleton_append, ← Hst.out, ht.out]), hb3⟩
          case measure => simp [intOf]; omega
        · have hbe : (s1 == s2) = false := by simp [he]
          obtain ⟨g0, hg0⟩ : ∃ g, G[k]? = some g := ⟨_, List.getElem?_eq_getElem (by omega)⟩
          obtain ⟨g1, hg1⟩ : ∃ g, G[k + 1]? = some g := ⟨_, List.getElem?_eq_getElem (by omega)⟩
          have t0 := hgrid.cellTop hg0
          have t1 := hgrid.cellTop hg1
          have d1 := hgrid.cell hg1 (j := l) (by omega)
          have d0 := hgrid.cell hg0 (j := l + 1) (by omega)
          by_cases hle : lcsAt xs ys k (l + 1) ≤ lcsAt xs ys (k + 1) l
          · have hst := mtch_skip hx1 hx2 he hle
            have Hst := Lib.hid hst
            clear hst hx1 hx2 he hgrid hg0 hg1
            go_wp2
            go_quiet (fail)
            obtain ⟨na, rfl⟩ : ∃ n, n = nq := ⟨_, rfl⟩
            go_wp2
            go_quiet (fail)
            have hown' : (wr.drewN (na + nq)).ownsRow w1.heap.size 3 1 (.slice A' done.length c') done.length (done.map fun s => .int .i64 s) := hown
            have hs3 := hb.size
            go_wp2_with (at_builtin; refine wpList_append_src _ rfl (.tmp 66) (.tmp 67) _ rfl w1.heap.size 3 i _ 1 8 Try.underlying36 hi0 hi1 hi2 hi3 rfl (by omega) _ done.length _ rfl (hown'.alloc _) _ 1 1 [.int .i64 (-1)] rfl (Src.lit (wr.drewN (na + nq)) 3 [.int .i64 (-1)] 1 1 rfl) ?e2 ?e3 ?e4 ?e5 ?_)
            case e2 => intro u hu; simp at hu; subst hu; rfl
            case e3 => unfold maxLen; omega
            case e4 => omega
            case e5 => simp; omega
            intro A2' c2' w3 hown3 hg3 _
            have hbA : Below w1.heap.size w1 ((wr.drewN (na + nq)).alloc (Obj.cells #[.int .i64 (-1)] 3)) := Below.alloc (below_drewN hb _) (by simpa using hb.size) _
            have hb3 : Below w1.heap.size w1 w3 := hbA.grown hg3 (by simp; omega) (fun g hg => (hown'.lt g hg).1)
            have hm3 : (done.map fun s => (.int .i64 s : Value)) ++ [.int .i64 (-1)] = (done ++ [(-1)]).map fun s => .int .i64 s := by simp
            rw [hm3] at hown3
            go_wp2
            go_roundw
            case rel => exact ⟨k + 1, l, done ++ [(-1)], _, _, by omega, by omega, by rw [List.length_append]; rfl, by go_num, by go_num, by simp; omega, by rw [List.length_append]; exact hown3, Lib.hid (by rw [List.append_assoc, List.singleton_append, ← Hst.out, ht.out]), hb3⟩
            case measure => simp [intOf]; omega
          · have hst := mtch_next hx1 hx2 he hle
            have Hst := Lib.hid hst
            clear hst hx1 hx2 he hgrid hg0 hg1
            go_wp2
            go_quiet (fail)
            go_wp2
            go_quiet (fail)
            go_wp2
            go_roundw
            case rel => exact ⟨k, l + 1, done, _, _, by omega, by omega, rfl, by go_num, by go_num, by omega, hown, Lib.hid (by rw [← Hst.out, ht.out]), below_drewN hb _⟩
            case measure => simp [intOf]; omega
      · obtain rfl : l = ys.length := by omega
        have hst := mtch_end hx1 (Nat.le_refl ys.length)
        have Hst := Lib.hid hst
        clear hst hx1
        go_wp2
        go_quiet (fail)
        obtain ⟨na, rfl⟩ : ∃ n, n = nq := ⟨_, rfl⟩
        go_wp2
        go_quiet (fail)
        have hown' : (wr.drewN (na + nq)).ownsRow w1.heap.size 3 1 (.slice A' done.length c') done.length (done.map fun s => .int .i64 s) := hown
        have hs3 := hb.size
        go_wp2_with (at_builtin; refine wpList_append_src _ rfl (.tmp 66) (.tmp 67) _ rfl w1.heap.size 3 i _ 1 8 Try.underlying36 hi0 hi1 hi2 hi3 rfl (by omega) _ done.length _ rfl (hown'.alloc _) _ 1 1 [.int .i64 (-1)] rfl (Src.lit (wr.drewN (na + nq)) 3 [.int .i64 (-1)] 1 1 rfl) ?e2 ?e3 ?e4 ?e5 ?_)
        case e2 => intro u hu; simp at hu; subst hu; rfl
        case e3 => unfold maxLen; omega
        case e4 => omega
        case e5 => simp; omega
        intro A2' c2' w3 hown3 hg3 _
        have hbA : Below w1.heap.size w1 ((wr.drewN (na + nq)).alloc (Obj.cells #[.int .i64 (-1)] 3)) := Below.alloc (below_drewN hb _) (by simpa using hb.size) _
        have hb3 : Below w1.heap.size w1 w3 := hbA.grown hg3 (by simp; omega) (fun g hg => (hown'.lt g hg).1)
        have hm3 : (done.map fun s => (.int .i64 s : Value)) ++ [.int .i64 (-1)] = (done ++ [(-1)]).map fun s => .int .i64 s := by simp
        rw [hm3] at hown3
        go_wp2
        go_roundw
        case rel => exact ⟨k + 1, ys.length, done ++ [(-1)], _, _, by omega, by omega, by rw [List.length_append]; rfl, by go_num, by go_num, by simp; omega, by rw [List.length_append]; exact hown3, Lib.hid (by rw [List.append_assoc, List.singleton_append, ← Hst.out, ht.out]), hb3⟩
        case measure => simp [intOf]; omega
    · go_wp2
      go_ret
      have ht := ht.out
      rw [mtch_done (by omega), List.append_nil] at ht
      subst ht
      refine ⟨_, _, _, rfl, hb1.trans (hb.mono hs1), Fresh.mono (Fresh.of_row hown (owns_ints _ _)) hs1 (Nat.le_refl _)⟩

set_option maxRecDepth 100000 in
set_option maxHeartbeats 1600000 in
theorem spec_l1Match_any (A1 A2 : Option Addr) (n1 c1 n2 c2 : Nat) (xs ys : List Str) (w : World) (lo hi lo' hi' : Nat) (h1 : Rep w lo hi (encText xs) (.slice A1 n1 c1)) (h2 : Rep w lo' hi' (encText ys) (.slice A2 n2 c2))
    (hh1 : hi ≤ w.heap.size) (hh2 : hi' ≤ w.heap.size) (hx : xs.length ≤ 1048576) (hy : ys.length ≤ 1048576) :
    Calls Try.prog 19 #[.slice A1 n1 c1, .slice A2 n2 c2] w fun e w' => ∃ A n c, e = .returned (.slice A n c) ∧ Below w.heap.size w w' ∧ Fresh w' w.heap.size w'.heap.size (encInts (mtch xs ys 0)) (.slice A n c) := by
  have hl1 := Text.n h1
  have hl2 := Text.n h2
  obtain ⟨hc1, hm1⟩ := Text.cap h1
  obtain ⟨hc2, hm2⟩ := Text.cap h2
  subst hl1 hl2
  obtain ⟨i, hi0, hi1, hi2, hi3⟩ := info_parts Try.infoInt
  go_enter Try.func19, Try.ntmps19
  go_wp2_with fail
  refine Calls.mono (spec_l1Table_any _ _ _ _ _ _ xs ys w lo hi lo' hi' h1 h2 hh1 hh2 hx hy) ?_
  rintro e w1 ⟨gt, ct, G, rfl, hb1, hG, hgrid1⟩
  have hs1 := hb1.size
  go_wp2
  go_loopw [6, 7, 8] (fun t j i wr => ∃ (k l : Nat) (done : List Int) (A' : Option Addr) (c' : Nat), k ≤ xs.length ∧ l ≤ ys.length ∧ t = .slice A' done.length c' ∧ i = .int .i64 k ∧ j = .int .i64 l ∧ done.length ≤ k ∧
      wr.ownsRow w1.heap.size 3 1 (.slice A' done.length c') done.length (done.map fun s => .int .i64 s) ∧ Hid (done ++ mtch (xs.drop k) (ys.drop l) l = mtch xs ys 0) ∧ Below w1.heap.size w1 wr) (fun _ j i _ => xs.length - (intOf i).toNat + (ys.length - (intOf j).toNat))
  case atStart => exact ⟨0, 0, [], _, _, Nat.zero_le _, Nat.zero_le _, rfl, rfl, rfl, Nat.le_refl _, World.ownsRow_made w1 #[] 0 (Nat.le_refl _) (Nat.zero_le _) rfl, Lib.hid (by simp), (Below.refl _ _).alloc (Nat.le_refl _) _⟩
  case round =>
    obtain ⟨k, l, done, A', c', hk, hl, rfl, rfl, rfl, hd, hown, ht, hb⟩ := hrel
    by_cases hkn : k < xs.length
    · have hkn' : (k : Int) < (xs.length : Int) := by omega
      have hkn1 : (k : Int) < (xs.length : Int) + 1 := by omega
      have hkn2 : (k : Int) + 1 < (xs.length : Int) + 1 := by omega
      have hw := hb1.trans (hb.mono hs1)
      have hgrid := hgrid1.keep (w' := wr) (fun q _ hq => hb.block q hq)
      obtain ⟨b1, o1, s1, rfl, _, _, hx1, hcell1⟩ := Text.at (h1.keep hw hh1) hkn
      by_cases hlt : l < ys.length
      · have hlt' : (l : Int) < (ys.length : Int) := by omega
        have hlt1 : (l : Int) < (ys.length : Int) + 1 := by omega
        have hlt2 : (l : Int) + 1 < (ys.length : Int) + 1 := by omega
        have hle' : ((l : Int) == (ys.length : Int)) = false := by simp; omega
        have hge' : decide (ys.length ≤ l) = false := by simp; omega
        obtain ⟨b2, o2, s2, rfl, _, _, hx2, hcell2⟩ := Text.at (h2.keep hw hh2) hlt
        by_cases he : s1 = s2
        · have hst := mtch_same hx1 hx2 he
          have Hst := Lib.hid hst
          have hbe : (s1 == s2) = true := by simp [he]
          clear hst hx1 hx2
          go_wp2
          go_quiet (fail)
          have hown' : (wr.drewN nq).ownsRow w1.heap.size 3 1 (.slice A' done.length c') done.length (done.map fun s => .int .i64 s) := hown
          have hs3 := hb.size
          go_wp2_with (at_builtin; refine wpList_append_src _ rfl (.tmp 35) (.tmp 37) _ rfl w1.heap.size 3 i _ 1 8 Try.underlying36 hi0 hi1 hi2 hi3 rfl (by omega) _ done.length _ rfl (hown'.alloc _) _ 1 1 [.int .i64 (l : Int)] rfl (Src.lit (wr.drewN nq) 3 [.int .i64 (l : Int)] 1 1 rfl) ?e2 ?e3 ?e4 ?e5 ?_)
          case e2 => intro u hu; simp at hu; subst hu; rfl
          case e3 => unfold maxLen; omega
          case e4 => omega
          case e5 => simp; omega
          intro A2' c2' w3 hown3 hg3 _
          have hbA : Below w1.heap.size w1 ((wr.drewN nq).alloc (Obj.cells #[.int .i64 (l : Int)] 3)) := Below.alloc (below_drewN hb _) (by simpa using hb.size) _
          have hb3 : Below w1.heap.size w1 w3 := hbA.grown hg3 (by simp; omega) (fun g hg => (hown'.lt g hg).1)
          have hm3 : (done.map fun s => (.int .i64 s : Value)) ++ [.int .i64 (l : Int)] = (done ++ [(l : Int)]).map fun s => .int .i64 s := by simp
          rw [hm3] at hown3
          go_wp2
          go_roundw
          case rel => exact ⟨k + 1, l + 1, done ++ [(l : Int)], _, _, by omega, by omega, by rw [List.length_append]; rfl, by go_num, by go_num, by simp; omega, by rw [List.length_append]; exact hown3, Lib.hid (by rw [List.append_assoc, List.singleton_append, ← Hst.out, ht.out]), hb3⟩
          case measure => simp [intOf]; omega
        · have hbe : (s1 == s2) = false := by simp [he]
          obtain ⟨g0, hg0⟩ : ∃ g, G[k]? = some g := ⟨_, List.getElem?_eq_getElem (by omega)⟩
          obtain ⟨g1, hg1⟩ : ∃ g, G[k + 1]? = some g := ⟨_, List.getElem?_eq_getElem (by omega)⟩
          have t0 := hgrid.cellTop hg0
          have t1 := hgrid.cellTop hg1
          have d1 := hgrid.cell hg1 (j := l) (by omega)
          have d0 := hgrid.cell hg0 (j := l + 1) (by omega)
          by_cases hle : lcsAt xs ys k (l + 1) ≤ lcsAt xs ys (k + 1) l
          · have hst := mtch_skip hx1 hx2 he hle
            have Hst := Lib.hid hst
            clear hst hx1 hx2 he hgrid hg0 hg1
            go_wp2
            go_quiet (fail)
            obtain ⟨na, rfl⟩ : ∃ n, n = nq := ⟨_, rfl⟩
            go_wp2
            go_quiet (fail)
            have hown' : (wr.drewN (na + nq)).ownsRow w1.heap.size 3 1 (.slice A' done.length c') done.length (done.map fun s => .int .i64 s) := hown
            have hs3 := hb.size
            go_wp2_with (at_builtin; refine wpList_append_src _ rfl (.tmp 67) (.tmp 68) _ rfl w1.heap.size 3 i _ 1 8 Try.underlying36 hi0 hi1 hi2 hi3 rfl (by omega) _ done.length _ rfl (hown'.alloc _) _ 1 1 [.int .i64 (-1)] rfl (Src.lit (wr.drewN (na + nq)) 3 [.int .i64 (-1)] 1 1 rfl) ?e2 ?e3 ?e4 ?e5 ?_)
            case e2 => intro u hu; simp at hu; subst hu; rfl
            case e3 => unfold maxLen; omega
            case e4 => omega
            case e5 => simp; omega
            intro A2' c2' w3 hown3 hg3 _
            have hbA : Below w1.heap.size w1 ((wr.drewN (na + nq)).alloc (Obj.cells #[.int .i64 (-1)] 3)) := Below.alloc (below_drewN hb _) (by simpa using hb.size) _
            have hb3 : Below w1.heap.size w1 w3 := hbA.grown hg3 (by simp; omega) (fun g hg => (hown'.lt g hg).1)
            have hm3 : (done.map fun s => (.int .i64 s : Value)) ++ [.int .i64 (-1)] = (done ++ [(-1)]).map fun s => .int .i64 s := by simp
            rw [hm3] at hown3
            go_wp2
            go_roundw
            case rel => exact ⟨k + 1, l, done ++ [(-1)], _, _, by omega, by omega, by rw [List.length_append]; rfl, by go_num, by go_num, by simp; omega, by rw [List.length_append]; exact hown3, Lib.hid (by rw [List.append_assoc, List.singleton_append, ← Hst.out, ht.out]), hb3⟩
            case measure => simp [intOf]; omega
          · have hst := mtch_next hx1 hx2 he hle
            have Hst := Lib.hid hst
            clear hst hx1 hx2 he hgrid hg0 hg1
            go_wp2
            go_quiet (fail)
            go_wp2
            go_quiet (fail)
            go_wp2
            go_roundw
            case rel => exact ⟨k, l + 1, done, _, _, by omega, by omega, rfl, by go_num, by go_num, by omega, hown, Lib.hid (by rw [← Hst.out, ht.out]), below_drewN hb _⟩
            case measure => simp [intOf]; omega
      · obtain rfl : l = ys.length := by omega
        have hst := mtch_end hx1 (Nat.le_refl ys.length)
        have Hst := Lib.hid hst
        clear hst hx1
        go_wp2
        go_quiet (fail)
        obtain ⟨na, rfl⟩ : ∃ n, n = nq := ⟨_, rfl⟩
        go_wp2
        go_quiet (fail)
        have hown' : (wr.drewN (na + nq)).ownsRow w1.heap.size 3 1 (.slice A' done.length c') done.length (done.map fun s => .int .i64 s) := hown
        have hs3 := hb.size
        go_wp2_with (at_builtin; refine wpList_append_src _ rfl (.tmp 67) (.tmp 68) _ rfl w1.heap.size 3 i _ 1 8 Try.underlying36 hi0 hi1 hi2 hi3 rfl (by omega) _ done.length _ rfl (hown'.alloc _) _ 1 1 [.int .i64 (-1)] rfl (Src.lit (wr.drewN (na + nq)) 3 [.int .i64 (-1)] 1 1 rfl) ?e2 ?e3 ?e4 ?e5 ?_)
        case e2 => intro u hu; simp at hu; subst hu; rfl
        case e3 => unfold maxLen; omega
        case e4 => omega
        case e5 => simp; omega
        intro A2' c2' w3 hown3 hg3 _
        have hbA : Below w1.heap.size w1 ((wr.drewN (na + nq)).alloc (Obj.cells #[.int .i64 (-1)] 3)) := Below.alloc (below_drewN hb _) (by simpa using hb.size) _
        have hb3 : Below w1.heap.size w1 w3 := hbA.grown hg3 (by simp; omega) (fun g hg => (hown'.lt g hg).1)
        have hm3 : (done.map fun s => (.int .i64 s : Value)) ++ [.int .i64 (-1)] = (done ++ [(-1)]).map fun s => .int .i64 s := by simp
        rw [hm3] at hown3
        go_wp2
        go_roundw
        case rel => exact ⟨k + 1, ys.length, done ++ [(-1)], _, _, by omega, by omega, by rw [List.length_append]; rfl, by go_num, by go_num, by simp; omega, by rw [List.length_append]; exact hown3, Lib.hid (by rw [List.append_assoc, List.singleton_append, ← Hst.out, ht.out]), hb3⟩
        case measure => simp [intOf]; omega
    · go_wp2
      go_ret
      have ht := ht.out
      rw [mtch_done (by omega), List.append_nil] at ht
      subst ht
      refine ⟨_, _, _, rfl, hb1.trans (hb.mono hs1), Fresh.mono (Fresh.of_row hown (owns_ints _ _)) hs1 (Nat.le_refl _)⟩

end Go.Proofs.Ytfigfpoklppkgaa
