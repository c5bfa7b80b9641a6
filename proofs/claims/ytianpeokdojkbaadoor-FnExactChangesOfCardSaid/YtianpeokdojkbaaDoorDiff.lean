/- Walks: the pieces of a difference, the program's and the reference's. -/
import Derived.Test.YtianpeokdojkbaaDoorCopy
import Derived.Test.YtianpeokdojkbaaDoorMatch
import Derived.Test.YtianpeokdojkbaaDoorHHunk
import Derived.Deep.RegionHeld3
namespace Go.Proofs.YtianpeokdojkbaaDoor
open Go.RowKit

set_option maxRecDepth 100000 in
set_option maxHeartbeats 1600000 in
theorem impl_diff_any (A1 A2 : Option Addr) (n1 c1 n2 c2 : Nat) (xs ys : List Str) (w : World) (lo hi lo' hi' : Nat) (h1 : Rep w lo hi (encText xs) (.slice A1 n1 c1)) (h2 : Rep w lo' hi' (encText ys) (.slice A2 n2 c2))
    (hh1 : hi ≤ w.heap.size) (hh2 : hi' ≤ w.heap.size) (hx : xs.length ≤ 1048576) (hy : ys.length ≤ 1048576) :
    Calls Tryd.prog 25 #[.slice A1 n1 c1, .slice A2 n2 c2] w fun e w' => ∃ A n c, e = .returned (.slice A n c) ∧ Below w.heap.size w w' ∧ Fresh w' w.heap.size w'.heap.size (encHunks (diffOf xs ys)) (.slice A n c) := by
  have hl1 := Text.n h1
  have hl2 := Text.n h2
  obtain ⟨hc1, hm1⟩ := Text.cap h1
  obtain ⟨hc2, hm2⟩ := Text.cap h2
  subst hl1 hl2
  obtain ⟨i, hi0, hi1, hi2, hi3⟩ := info_parts Tryd.infoInt
  obtain ⟨ih, gi0, gi1, gi2, gi3⟩ := info_parts Tryd.infoHunk
  go_enter Tryd.func25, Tryd.ntmps25
  go_wp2_with fail
  refine Calls.mono (impl_match_any _ _ _ _ _ _ xs ys w lo hi lo' hi' h1 h2 hh1 hh2 hx hy) ?_
  rintro e w1 ⟨Am, nm, cm, rfl, hb1, hf1⟩
  obtain ⟨hnm, hown1⟩ := hf1.ints
  rw [mtch_len] at hnm
  subst hnm
  have hs1 := hb1.size
  go_wp2_with (at_builtin; refine wpList_append_src _ rfl (.tmp 13) (.tmp 16) _ rfl w.heap.size 3 i _ 1 8 Tryd.underlying70 hi0 hi1 hi2 hi3 rfl (by omega) _ xs.length _ rfl (hown1.alloc _) _ 1 1 [.int .i64 (ys.length : Int)] rfl (Src.lit w1 3 [.int .i64 (ys.length : Int)] 1 1 rfl) ?e2 ?e3 ?e4 ?e5 ?_)
  case e2 => intro u hu; simp at hu; subst hu; rfl
  case e3 => unfold maxLen; omega
  case e4 => omega
  case e5 => simp; omega
  intro Ap cp w3 hown3 hg3 _
  have hbA : Below w.heap.size w (w1.alloc (Obj.cells #[.int .i64 (ys.length : Int)] 3)) := Below.alloc hb1 hs1 _
  have hb3 : Below w.heap.size w w3 := hbA.grown hg3 (by simp; omega) (fun g hg => (hown1.lt g hg).1)
  have hm3 : ((mtch xs ys 0).map fun s => (.int .i64 s : Value)) ++ [.int .i64 (ys.length : Int)] = (pairsOf xs ys).map fun s => .int .i64 s := by simp [pairsOf]
  rw [hm3] at hown3
  have hR : Rep w3 w.heap.size w3.heap.size (encInts (pairsOf xs ys)) (.slice Ap (xs.length + 1) cp) := (Fresh.of_row hown3 (owns_ints _ _)).rep
  have hs3 := hb3.size
  have hpl := pairsOf_len xs ys
  have hinc := pairsOf_inc xs ys
  obtain ⟨hcp, hmp⟩ := Ints.cap hR
  obtain ⟨ps, eps⟩ : ∃ ps, ps = pairsOf xs ys := ⟨_, rfl⟩
  have hdf : diffOf xs ys = cutHunks xs ys ps 0 0 0 := by rw [eps]; rfl
  rw [← eps] at hR hpl hinc
  have Hinc := Lib.hid hinc
  have Hdf := Lib.hid hdf
  have Hpl := Lib.hid hpl
  clear hown3 hm3 hown1 hf1 hg3 eps hinc hdf hpl hbA
  go_wp2
  go_loopw [6, 7, 8, 20] (fun t fa fb i wr => ∃ (k a b : Nat) (done : List PHunk) (A' : Option Addr) (n' c' : Nat), k ≤ xs.length + 1 ∧ a ≤ k ∧ b ≤ ys.length + 1 ∧ t = .slice A' n' c' ∧ fa = .int .i64 a ∧ fb = .int .i64 b ∧ i = .int .i64 k ∧ done.length ≤ k ∧
      Hid (Inc b ys.length (ps.drop k)) ∧ Hid (done ++ cutHunks xs ys (ps.drop k) k a b = diffOf xs ys) ∧ Fresh wr w3.heap.size wr.heap.size (encHunks done) (.slice A' n' c') ∧ Below w3.heap.size w3 wr) (fun _ _ _ i _ => xs.length + 1 - (intOf i).toNat)
  case atStart => exact ⟨0, 0, 0, [], _, _, _, by omega, by omega, by omega, rfl, rfl, rfl, rfl, by simp, Lib.hid (by simpa using Hinc.out), Lib.hid (by simpa using Hdf.out.symm), Fresh.nil _ _ _ _ _, Below.refl _ _⟩
  case round =>
    obtain ⟨k, a, b, done, A', n', c', hk, hak, hby, rfl, rfl, rfl, rfl, hdk, hI, ht, hf, hb⟩ := hrel
    by_cases hkn : k < xs.length + 1
    · have hkn' : (k : Int) < (xs.length : Int) + 1 := by omega
      obtain ⟨b1, o1, j, rfl, _, _, hj, hcell⟩ := Ints.at (hR.keep hb (Nat.le_refl _)) hkn
      have hdj := drop_cons hj
      have hIj := hI.out
      have htj := ht.out
      rw [hdj] at hIj htj
      have Htj := Lib.hid htj
      have hbw := hb3.trans (hb.mono hs3)
      have hsw := hbw.size
      clear hdj htj hj
      by_cases hneg : j < 0
      · have hIj2 : Inc b ys.length (ps.drop (k + 1)) := by
          rcases hIj with ⟨_, h⟩ | ⟨h, _⟩
          · exact h
          · omega
        have HI2 := Lib.hid hIj2
        clear hIj2 hIj
        go_wp2
        go_roundw
        case rel => exact ⟨k + 1, a, b, done, _, _, _, by omega, by omega, by omega, rfl, rfl, rfl, by go_num, by omega, HI2, Lib.hid (by have := Htj.out; rwa [cutHunks, if_pos hneg] at this), hf, hb⟩
        case measure => simp [intOf]; omega
      · obtain ⟨q, rfl⟩ := Int.eq_ofNat_of_zero_le (by omega : 0 ≤ j)
        have hIj2 : b ≤ q ∧ q ≤ ys.length ∧ Inc ((q : Int) + 1) ys.length (ps.drop (k + 1)) := by
          rcases hIj with ⟨h, _⟩ | ⟨h1, h2, h3⟩
          · omega
          · exact ⟨by omega, by omega, h3⟩
        obtain ⟨hbq, hqy, hIn⟩ := hIj2
        have HIn := Lib.hid hIn
        have htn := Htj.out
        rw [cutHunks, if_neg hneg, Int.toNat_natCast] at htn
        have Htn := Lib.hid htn
        clear hIj hIn htn Htj hneg
        by_cases hg : a < k ∨ b < q
        · have hn := Htn.out
          rw [if_pos hg] at hn
          have Hn := Lib.hid hn
          have hg' : a < k ∨ (¬ a < k ∧ b < q) := by omega
          clear hn Htn hg
          rcases hg' with hA | ⟨hA, hB⟩
          all_goals
            go_wp2
            obtain ⟨B1, eB1, hq1, hq1'⟩ := Tryd.cutText A1 xs.length c1 a k hak (by omega)
            obtain ⟨B2, eB2, hq2, hq2'⟩ := Tryd.cutText A2 ys.length c2 b q hbq (by omega)
            have hT1 := Text.cut ((h1.keep hbw hh1).drewN 1) a k hak (by omega)
            have hT2 := Text.cut ((h2.keep hbw hh2).drewN 1) b q hbq (by omega)
            rw [← eB1] at hT1
            rw [← eB2] at hT2
            clear eB1 eB2
            have hhw1 := Nat.le_trans hh1 hsw
            have hhw2 := Nat.le_trans hh2 hsw
            have hln1 : ((xs.drop a).take (k - a)).length ≤ 1048576 := by simp; omega
            have hln2 : ((ys.drop b).take (q - b)).length ≤ 1048576 := by simp; omega
            have hnd := Hunks.n hf.rep
            subst hnd
            obtain ⟨us, G, hown, ho, hnodup, hbd⟩ := hf.row_of
            have hsb := hb.size
            clear hf
            have hnk : done.length ≤ 1048577 := by omega
            go_region_held3 (fun _ => True) (trivial) (first | (go_at_call 26; refine (impl_copyText_any B1 _ _ _ _ lo hi hT1 hhw1 hln1).mono ?_; rintro e w5 ⟨A5, n5, c5, rfl, hb5, hf5⟩) | (go_at_call 26; refine (impl_copyText_any B2 _ _ _ _ lo' hi' (hT2.keep hb5 hhw2) (Nat.le_trans hhw2 hb5.size) hln2).mono ?_; rintro e w6 ⟨A6, n6, c6, rfl, hb6, hf6⟩) | (
              have hk6 : ∀ q, q < wr.heap.size → w6.heap[q]? = wr.heap[q]? := fun q hq => (hb6.block q (Nat.lt_of_lt_of_le hq hb5.size)).trans (hb5.block q hq)
              have hown6 := ownsRow_same (w' := w6) hown (fun q hq => hk6 q (hown.lt q (by simpa using hq)).2)
              have hs56 : w3.heap.size ≤ w6.heap.size := Nat.le_trans hsb (Nat.le_trans hb5.size hb6.size)
              refine step_append_src _ (by rfl) (.tmp 35) (.tmp 48) _ (by rfl) w3.heap.size 73 ih _ 3 56 Tryd.underlying48 gi0 gi1 gi2 gi3 (by rfl) (by omega) _ done.length us (by rfl) (hown6.alloc _) _ 1 1 [.int .i64 (a : Int), .slice A5 n5 c5, .slice A6 n6 c6] (by rfl) (Src.lit w6 73 [.int .i64 (a : Int), .slice A5 n5 c5, .slice A6 n6 c6] 3 1 rfl) (by intro u hu; simp at hu; rcases hu with rfl | rfl | rfl <;> rfl) (by unfold maxLen; omega) (by omega) (by simp; omega) ?_
              intro A7 c7 w7 hown7 hg7 hat7))
            have hb5 : Below wr.heap.size wr w5 := ⟨hb5.os, hb5.tape, hb5.output, hb5.size, hb5.block⟩
            have hs5 := hb5.size
            have hs6 := hb6.size
            have hf5 : Fresh w5 wr.heap.size w5.heap.size (encText ((xs.drop a).take (k - a))) (.slice A5 n5 c5) := hf5
            have hbV : Below w3.heap.size w3 w6 := hb.trans ((hb5.trans (hb6.mono hs5)).mono hsb)
            have hs36 := hbV.size
            have hbX : Below w3.heap.size w3 (w6.alloc (Obj.cells #[.int .i64 (a : Int), .slice A5 n5 c5, .slice A6 n6 c6] 73)) := hbV.alloc hs36 _
            have hb7 : Below w3.heap.size w3 w7 := hbX.grown hg7 (by simp; omega) (fun g hg => (hown.lt g hg).1)
            have hr5 : Fresh (w6.alloc (Obj.cells #[.int .i64 (a : Int), .slice A5 n5 c5, .slice A6 n6 c6] 73)) wr.heap.size w5.heap.size (encText ((xs.drop a).take (k - a))) (.slice A5 n5 c5) := hf5.same (((Same.of_below hb6 (Nat.le_refl _)).alloc hs6 _).mono (Nat.zero_le _) (Nat.le_refl _))
            have hr6 : Fresh (w6.alloc (Obj.cells #[.int .i64 (a : Int), .slice A5 n5 c5, .slice A6 n6 c6] 73)) w5.heap.size w6.heap.size (encText ((ys.drop b).take (q - b))) (.slice A6 n6 c6) := hf6.same ((Same.refl _ _ _).alloc (Nat.le_refl _) _)
            have hnew : FreshL (w6.alloc (Obj.cells #[.int .i64 (a : Int), .slice A5 n5 c5, .slice A6 n6 c6] 73)) wr.heap.size w6.heap.size (cHunks ⟨a, (xs.drop a).take (k - a), (ys.drop b).take (q - b)⟩) [.int .i64 (a : Int), .slice A5 n5 c5, .slice A6 n6 c6] :=
              FreshL.plain ⟨rfl, rfl⟩ (FreshL.cons hr5 (Fresh.one hr6) hs5 hs6)
            have hk6' : ∀ q ∈ G, (w6.alloc (Obj.cells #[.int .i64 (a : Int), .slice A5 n5 c5, .slice A6 n6 c6] 73)).heap[q]? = wr.heap[q]? := fun q hq => by
              have := hbd q (List.mem_append_right _ hq)
              exact (Below.heap_alloc w6 _ q (by omega)).trans ((hb6.block q (by omega)).trans (hb5.block q this.2))
            have hfin := Fresh.grew (Owns.same _ _ _ ho hk6') hnodup hbd hnew hown7 hg7 hat7 (Nat.le_trans hs5 hs6) (by simp) hsb
            have hcons : done.flatMap cHunks ++ cHunks (⟨a, (xs.drop a).take (k - a), (ys.drop b).take (q - b)⟩ : PHunk) = (done ++ [(⟨a, (xs.drop a).take (k - a), (ys.drop b).take (q - b)⟩ : PHunk)]).flatMap cHunks := by simp
            rw [hcons] at hfin
            have Hf := Lib.hid hfin
            clear hfin hcons hnew hr5 hr6 hk6' hown7 hg7 hat7 hbX hbV hf5 hf6 hb5 hb6 hT1 hT2 ho hown
            go_wp2
            go_roundw
            case rel => exact ⟨k + 1, k + 1, q + 1, _, _, _, _, by omega, by omega, by omega, rfl, by go_num, by go_num, by go_num, by simp; omega, HIn, Lib.hid (by rw [List.append_assoc]; exact Hn.out), Hf.out, hb7⟩
            case measure => simp [intOf]; omega
        · go_wp2
          go_roundw
          case rel => exact ⟨k + 1, k + 1, q + 1, done, _, _, _, by omega, by omega, by omega, rfl, by go_num, by go_num, by go_num, by omega, HIn, Lib.hid (by have := Htn.out; rwa [if_neg hg, List.nil_append] at this), hf, hb⟩
          case measure => simp [intOf]; omega
    · obtain rfl : k = xs.length + 1 := by omega
      go_wp2
      go_ret
      have ht := ht.out
      rw [List.drop_of_length_le (by rw [Hpl.out]; omega), cutHunks, List.append_nil] at ht
      subst ht
      exact ⟨_, _, _, rfl, hb3.trans (hb.mono hs3), hf.mono hs3 (Nat.le_refl _)⟩
end Go.Proofs.YtianpeokdojkbaaDoor
