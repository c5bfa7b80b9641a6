/- Walk: the pieces of a difference, the reference's. -/
import Derived.Test.YtianpeokdojkbaaDoorDiff
import Derived.Test.YtianpeokdojkbaaDoorHHunk
import Derived.Deep.RegionHeld3
namespace Go.Proofs.YtianpeokdojkbaaDoor
open Go.RowKit

set_option maxRecDepth 100000 in
set_option maxHeartbeats 1600000 in
theorem spec_l1Of_any (A1 A2 : Option Addr) (n1 c1 n2 c2 : Nat) (xs ys : List Str) (w : World) (lo hi lo' hi' : Nat) (h1 : Rep w lo hi (encText xs) (.slice A1 n1 c1)) (h2 : Rep w lo' hi' (encText ys) (.slice A2 n2 c2))
    (hh1 : hi ≤ w.heap.size) (hh2 : hi' ≤ w.heap.size) (hx : xs.length ≤ 1048576) (hy : ys.length ≤ 1048576) :
    Calls Tryd.prog 47 #[.slice A1 n1 c1, .slice A2 n2 c2] w fun e w' => ∃ A n c, e = .returned (.slice A n c) ∧ Below w.heap.size w w' ∧ Fresh w' w.heap.size w'.heap.size (encHunks (diffOf xs ys)) (.slice A n c) := by
  have hl1 := Text.n h1
  have hl2 := Text.n h2
  obtain ⟨hc1, hm1⟩ := Text.cap h1
  obtain ⟨hc2, hm2⟩ := Text.cap h2
  subst hl1 hl2
  obtain ⟨i, hi0, hi1, hi2, hi3⟩ := info_parts Tryd.infoInt
  obtain ⟨is, si0, si1, si2, si3⟩ := info_parts Tryd.infoStr
  obtain ⟨ih, gi0, gi1, gi2, gi3⟩ := info_parts Tryd.infoHunk
  go_enter Tryd.func47, Tryd.ntmps47
  have hb0 : Below w.heap.size w (w.alloc (.cells #[] 73)) := (Below.refl _ _).alloc (Nat.le_refl _) _
  have h1a := h1.keep hb0 hh1
  have h2a := h2.keep hb0 hh2
  go_wp2_with fail
  refine Calls.mono (spec_l1Match_any _ _ _ _ _ _ xs ys _ lo hi lo' hi' h1a h2a (by simp; omega) (by simp; omega) hx hy) ?_
  rintro e w1 ⟨Am, nm, cm, rfl, hb1', hf1⟩
  have hb1 : Below w.heap.size w w1 := hb0.trans (hb1'.mono (by simp))
  have hmade : (w.alloc (.cells #[] 73)).ownsRow w.heap.size 73 3 (.slice (some ⟨w.heap.size, 0, none⟩) 0 0) 0 [] := World.ownsRow_made w #[] 0 (Nat.le_refl _) (Nat.zero_le _) rfl
  have hout0 : Fresh (w.alloc (.cells #[] 73)) w.heap.size (w.heap.size + 1) (encHunks []) (.slice (some ⟨w.heap.size, 0, none⟩) 0 0) := by
    have := Fresh.of_row hmade (ps := []) ⟨rfl, rfl⟩
    exact this.mono (Nat.le_refl _) (by simp)
  have hout1 := hout0.keep hb1' (by simp)
  have hf1 := hf1.mono (lo' := w.heap.size + 1) (by simp) (Nat.le_refl _)
  obtain ⟨hnm, hown1⟩ := hf1.ints
  rw [mtch_len] at hnm
  subst hnm
  have hs1 := hb1.size
  have hs1' := hb1'.size
  simp only [World.size_alloc] at hs1'
  go_wp2_with (at_builtin; refine wpList_append_src _ rfl (.tmp 13) (.tmp 16) _ rfl (w.heap.size + 1) 3 i _ 1 8 Tryd.underlying70 hi0 hi1 hi2 hi3 rfl (by omega) _ xs.length _ rfl (hown1.alloc _) _ 1 1 [.int .i64 (ys.length : Int)] rfl (Src.lit w1 3 [.int .i64 (ys.length : Int)] 1 1 rfl) ?e2 ?e3 ?e4 ?e5 ?_)
  case e2 => intro u hu; simp at hu; subst hu; rfl
  case e3 => unfold maxLen; omega
  case e4 => omega
  case e5 => simp; omega
  intro Ap cp w3 hown3 hg3 _
  have hrow1 := fun g hg => (hown1.lt g hg).1
  have hbA : Below w.heap.size w (w1.alloc (Obj.cells #[.int .i64 (ys.length : Int)] 3)) := Below.alloc hb1 hs1 _
  have hb3 : Below w.heap.size w w3 := hbA.grown hg3 (by simp; omega) (fun g hg => by have := hrow1 g hg; omega)
  have hout3 : Fresh w3 w.heap.size (w.heap.size + 1) (encHunks []) (.slice (some ⟨w.heap.size, 0, none⟩) 0 0) :=
    hout1.same (Same.trans ((Same.refl _ _ _).alloc (by omega) _) (Same.of_grown hg3 (by simp; omega) (fun g hg => by have := hrow1 g hg; omega)))
  have hm3 : ((mtch xs ys 0).map fun s => (.int .i64 s : Value)) ++ [.int .i64 (ys.length : Int)] = (pairsOf xs ys).map fun s => .int .i64 s := by simp [pairsOf]
  rw [hm3] at hown3
  have hs3g := hg3.size
  simp only [World.size_alloc] at hs3g
  have hR : Rep w3 (w.heap.size + 1) w3.heap.size (encInts (pairsOf xs ys)) (.slice Ap (xs.length + 1) cp) := (Fresh.of_row hown3 (owns_ints _ _)).rep
  have hs3 := hb3.size
  have hpl := pairsOf_len xs ys
  have hinc := pairsOf_inc xs ys
  obtain ⟨hcp, hmp⟩ := Ints.cap hR
  obtain ⟨ps, eps⟩ : ∃ ps, ps = pairsOf xs ys := ⟨_, rfl⟩
  have hdf : diffOf xs ys = cutHunks xs ys ps 0 0 0 := by rw [eps]; rfl
  rw [← eps] at hR hpl hinc
  have Hinc := Lib.hid hinc
  have Hdf := Lib.hid hdf
  have Hpl := Lib.hid hpl
  have hs31 : w.heap.size + 1 ≤ w3.heap.size := by omega
  clear hown3 hm3 hown1 hf1 hg3 eps hinc hdf hpl hbA hout1 hout0 hmade hrow1 hb1 hb1' hb0 h1a h2a hs1 hs1' hs3g
  go_wp2
  go_loopw [5, 7, 8, 9] (fun t fa fb i wr => ∃ (k a b : Nat) (done : List PHunk) (A' : Option Addr) (n' c' : Nat), k ≤ xs.length + 1 ∧ a ≤ k ∧ b ≤ ys.length + 1 ∧ t = .slice A' n' c' ∧ fa = .int .i64 a ∧ fb = .int .i64 b ∧ i = .int .i64 k ∧ done.length ≤ k ∧
      Hid (Inc b ys.length (ps.drop k)) ∧ Hid (done ++ cutHunks xs ys (ps.drop k) k a b = diffOf xs ys) ∧ Fresh wr w.heap.size wr.heap.size (encHunks done) (.slice A' n' c') ∧ Below w.heap.size w wr ∧ Same (w.heap.size + 1) w3.heap.size w3 wr ∧ w3.heap.size ≤ wr.heap.size ∧
      (∀ g, (Value.slice A' n' c').ownBlock = some g → g < w.heap.size + 1 ∨ w3.heap.size ≤ g)) (fun _ _ _ i _ => xs.length + 1 - (intOf i).toNat)
  case atStart => exact ⟨0, 0, 0, [], _, _, _, by omega, by omega, by omega, rfl, rfl, rfl, rfl, by simp, Lib.hid (by simpa using Hinc.out), Lib.hid (by simpa using Hdf.out.symm), hout3.mono (Nat.le_refl _) hs31, hb3, Same.refl _ _ _, Nat.le_refl _, fun g hg => by simp [Value.ownBlock] at hg; omega⟩
  case round =>
    clear hout3
    obtain ⟨k, a, b, done, A', n', c', hk, hak, hby, rfl, rfl, rfl, rfl, hdk, hI, ht, hf, hb, hsm, hs3r, hob⟩ := hrel
    by_cases hkn : k < xs.length + 1
    · have hkn' : (k : Int) < (xs.length : Int) + 1 := by omega
      have hsb := hb.size
      obtain ⟨b1, o1, j, rfl, hb1lo, hb1hi, hj, hcell⟩ := Ints.at (hR.same hsm) hkn
      have hb1lt : b1 < wr.heap.size := by omega
      have hdj := drop_cons hj
      have hIj := hI.out
      have htj := ht.out
      rw [hdj] at hIj htj
      have Htj := Lib.hid htj
      clear hdj htj hj
      by_cases hneg : j < 0
      · have hIj2 : Inc b ys.length (ps.drop (k + 1)) := by
          rcases hIj with ⟨_, h⟩ | ⟨h, _⟩
          · exact h
          · omega
        have HI2 := Lib.hid hIj2
        clear hIj2 hIj
        go_wp2
        go_roundw
        case rel => exact ⟨k + 1, a, b, done, _, _, _, by omega, by omega, by omega, rfl, rfl, rfl, by go_num, by omega, HI2, Lib.hid (by have := Htj.out; rwa [cutHunks, if_pos hneg] at this), hf, hb, hsm, hs3r, hob⟩
        case measure => simp [intOf]; omega
      · obtain ⟨q, rfl⟩ := Int.eq_ofNat_of_zero_le (by omega : 0 ≤ j)
        have hIj2 : b ≤ q ∧ q ≤ ys.length ∧ Inc ((q : Int) + 1) ys.length (ps.drop (k + 1)) := by
          rcases hIj with ⟨h, _⟩ | ⟨h1, h2, h3⟩
          · omega
          · exact ⟨by omega, by omega, h3⟩
        obtain ⟨hbq, hqy, hIn⟩ := hIj2
        have HIn := Lib.hid hIn
        have htn := Htj.out
        rw [cutHunks, if_neg hneg, Int.toNat_natCast] at htn
        have Htn := Lib.hid htn
        clear hIj hIn htn Htj hneg
        by_cases hg : a < k ∨ b < q
        · have hn := Htn.out
          rw [if_pos hg] at hn
          have Hn := Lib.hid hn
          have hg' : a < k ∨ (¬ a < k ∧ b < q) := by omega
          clear hn Htn hg
          obtain ⟨B1, eB1, hq1, hq1'⟩ := Tryd.cutText A1 xs.length c1 a k hak (by omega)
          obtain ⟨B2, eB2, hq2, hq2'⟩ := Tryd.cutText A2 ys.length c2 b q hbq (by omega)
          have hT1 := Text.cut (h1.keep hb hh1) a k hak (by omega)
          have hT2 := Text.cut (h2.keep hb hh2) b q hbq (by omega)
          rw [← eB1] at hT1
          rw [← eB2] at hT2
          have hhw1 := Nat.le_trans hh1 hsb
          have hhw2 := Nat.le_trans hh2 hsb
          have hln1 : ((xs.drop a).take (k - a)).length = k - a := by simp; omega
          have hln2 : ((ys.drop b).take (q - b)).length = q - b := by simp; omega
          have hnd := Hunks.n hf.rep
          subst hnd
          obtain ⟨us, G, hown, ho, hnodup, hbd⟩ := hf.row_of
          have hnk : done.length ≤ 1048577 := by omega
          have Hln1 := Lib.hid hln1
          have Hln2 := Lib.hid hln2
          clear eB1 eB2 hf hln1 hln2
          rcases hg' with hA | ⟨hA, hB⟩
          all_goals
            go_wp2
            have M1 : (wr.alloc (Obj.cells #[] 9)).drew.ownsRow wr.heap.size 9 1 (.slice (some ⟨wr.heap.size, 0, none⟩) 0 0) 0 [] := World.ownsRow_made wr #[] 0 (Nat.le_refl _) (Nat.zero_le _) rfl
            have M2 : ((wr.alloc (Obj.cells #[] 9)).alloc (Obj.cells #[] 9)).drew.ownsRow wr.heap.size 9 1 (.slice (some ⟨wr.heap.size, 0, none⟩) 0 0) 0 [] := (World.ownsRow_made wr #[] 0 (Nat.le_refl _) (Nat.zero_le _) rfl).alloc _
            have M3 : ((wr.alloc (Obj.cells #[] 9)).alloc (Obj.cells #[] 9)).drew.ownsRow wr.heap.size 9 1 (.slice (some ⟨wr.heap.size + 1, 0, none⟩) 0 0) 0 [] := by
              have := World.ownsRow_made (wr.alloc (Obj.cells #[] 9)) #[] (e := 9) (size := 1) (base := wr.heap.size) 0 (by simp) (Nat.zero_le _) rfl
              simp at this
              exact this
            go_region_held3 (fun w' => w'.cell? ⟨b1, o1 + k, none⟩ = some (.int .i64 (q : Int))) ((first | trivial | assumption | go_keep)) (first
              | (
              refine step_append_src _ (by rfl) (.tmp 42) (.tmp 46) _ (by rfl) wr.heap.size 9 is _ 1 16 Tryd.underlying39 si0 si1 si2 si3 (by rfl) (by omega) _ 0 [] (by rfl) (by first | exact M1 | exact M2 | exact M3) B1 (k - a) (c1 - a) _ (by rfl) (Text.src (hT1.keep (B := wr.heap.size) (by (repeat' (first | with_reducible exact Below.refl _ _ | with_reducible assumption | (with_reducible refine Below.setCell ?_ ?_ _) | (with_reducible refine Below.alloc ?_ ?_ _) | (with_reducible refine below_drewN ?_ _) | (with_reducible refine Below.drew ?_) | omega | (simp; done) | (simp; omega)))) hhw1)) (texts_one _) (by unfold maxLen; omega) (by omega) (by first | omega | (simp; done) | (simp; omega)) ?_
              intro A5 c5 w5 hown5 hg5 hat5
              first
              | (change World.grownBy _ w5 (Value.slice (some ⟨wr.heap.size, 0, none⟩) 0 0).ownBlock at hg5; change _ = (Value.slice (some ⟨wr.heap.size, 0, none⟩) 0 0).ownBlock ∨ _ at hat5)
              | (change World.grownBy _ w5 (Value.slice (some ⟨wr.heap.size + 1, 0, none⟩) 0 0).ownBlock at hg5; change _ = (Value.slice (some ⟨wr.heap.size + 1, 0, none⟩) 0 0).ownBlock ∨ _ at hat5)
              rw [Nat.zero_add] at hown5 hat5
              have hb5 : Below wr.heap.size wr w5 := Below.grown (by (repeat' (first | with_reducible exact Below.refl _ _ | with_reducible assumption | (with_reducible refine Below.setCell ?_ ?_ _) | (with_reducible refine Below.alloc ?_ ?_ _) | (with_reducible refine below_drewN ?_ _) | (with_reducible refine Below.drew ?_) | omega | (simp; done) | (simp; omega)))) hg5 (by first | omega | (simp; done) | (simp; omega)) (fun g hg => by simp [Value.ownBlock] at hg; omega)
              have hs5 : wr.heap.size ≤ w5.heap.size := hb5.size
              have hlt5 := hown5.lt
              have hcW : w5.cell? ⟨b1, o1 + k, none⟩ = some (.int .i64 (q : Int)) := (hb5.cell (p := ⟨b1, o1 + k, none⟩) hb1lt).trans hcell)
              | (
              refine step_append_src _ (by rfl) (.tmp 48) (.tmp 55) _ (by rfl) wr.heap.size 9 is _ 1 16 Tryd.underlying39 si0 si1 si2 si3 (by rfl) (by omega) _ 0 [] (by rfl) (by first | exact World.ownsRow_made w5 #[] 0 hs5 (Nat.zero_le _) rfl | exact M3.kept hg5 (.inr (by simp [Value.ownBlock])) | exact M2.kept hg5 (.inr (by simp [Value.ownBlock]))) B2 (q - b) (c2 - b) _ (by rfl) (Text.src (hT2.keep (B := wr.heap.size) (by (repeat' (first | with_reducible exact Below.refl _ _ | with_reducible assumption | (with_reducible refine Below.setCell ?_ ?_ _) | (with_reducible refine Below.alloc ?_ ?_ _) | (with_reducible refine below_drewN ?_ _) | (with_reducible refine Below.drew ?_) | omega | (simp; done) | (simp; omega)))) hhw2)) (texts_one _) (by unfold maxLen; omega) (by omega) (by first | omega | (simp; done) | (simp; omega)) ?_
              intro A6 c6 w6 hown6 hg6 hat6
              first
              | (change World.grownBy _ w6 (Value.slice (some ⟨w5.heap.size, 0, none⟩) 0 0).ownBlock at hg6; change _ = (Value.slice (some ⟨w5.heap.size, 0, none⟩) 0 0).ownBlock ∨ _ at hat6)
              | (change World.grownBy _ w6 (Value.slice (some ⟨wr.heap.size, 0, none⟩) 0 0).ownBlock at hg6; change _ = (Value.slice (some ⟨wr.heap.size, 0, none⟩) 0 0).ownBlock ∨ _ at hat6)
              | (change World.grownBy _ w6 (Value.slice (some ⟨wr.heap.size + 1, 0, none⟩) 0 0).ownBlock at hg6; change _ = (Value.slice (some ⟨wr.heap.size + 1, 0, none⟩) 0 0).ownBlock ∨ _ at hat6)
              rw [Nat.zero_add] at hown6 hat6
              have hb6 : Below wr.heap.size wr w6 := Below.grown (by (repeat' (first | with_reducible exact Below.refl _ _ | with_reducible assumption | (with_reducible refine Below.setCell ?_ ?_ _) | (with_reducible refine Below.alloc ?_ ?_ _) | (with_reducible refine below_drewN ?_ _) | (with_reducible refine Below.drew ?_) | omega | (simp; done) | (simp; omega)))) hg6 (by first | omega | (simp; done) | (simp; omega)) (fun g hg => by simp [Value.ownBlock] at hg; omega)
              have hs6 : wr.heap.size ≤ w6.heap.size := hb6.size
              have hn56 : ∀ g, (Value.slice A5 (k - a) c5).ownBlock = some g → (Value.slice A6 (q - b) c6).ownBlock ≠ some g := by
                intro g hg hg'
                have hl := (hlt5 g hg).2
                rw [hg] at hat5
                rw [hg'] at hat6
                simp [Value.ownBlock] at hat5 hat6
                omega
              have hX5 : w6.ownsRow wr.heap.size 9 1 (.slice A5 (k - a) c5) (k - a) (((xs.drop a).take (k - a)).map fun s => .string ⟨s.toArray⟩) := by
                first
                | exact (hown5.alloc _).kept hg6 (apart_row (fun g hg e => by
                    have hl := (hlt5 g hg).2
                    rw [hg] at hat5
                    simp [Value.ownBlock] at hat5 e
                    omega))
                | exact hown5.kept hg6 (apart_row (fun g hg e => by
                    have hl := (hlt5 g hg).2
                    rw [hg] at hat5
                    simp [Value.ownBlock] at hat5 e
                    omega))
              have hcW : w6.cell? ⟨b1, o1 + k, none⟩ = some (.int .i64 (q : Int)) := (hb6.cell (p := ⟨b1, o1 + k, none⟩) hb1lt).trans hcell)
              | (
              have hown7 := ownsRow_same (w' := w6) hown (fun q hq => hb6.block q (hown.lt q (by simpa using hq)).2)
              refine step_append_src _ (by rfl) (.tmp 40) (.tmp 58) _ (by rfl) w.heap.size 73 ih _ 3 56 Tryd.underlying48 gi0 gi1 gi2 gi3 (by rfl) (by omega) _ (done.length) us (by rfl) (hown7.alloc _) _ 1 1 [.int .i64 (a : Int), .slice A5 (k - a) c5, .slice A6 (q - b) c6] (by rfl) (Src.lit w6 73 [.int .i64 (a : Int), .slice A5 (k - a) c5, .slice A6 (q - b) c6] 3 1 rfl) (by intro u hu; simp at hu; rcases hu with rfl | rfl | rfl <;> rfl) (by unfold maxLen; omega) (by omega) (by first | omega | (simp; done) | (simp; omega)) ?_
              clear hown7
              intro A7 c7 w7 hown7 hg7 hat7
              change World.grownBy _ w7 (Value.slice A' (done.length) c').ownBlock at hg7
              change _ = (Value.slice A' (done.length) c').ownBlock ∨ _ at hat7
              have hc7 : w7.cell? ⟨b1, o1 + k, none⟩ = some (.int .i64 (q : Int)) := (World.cell?_of_block ((hg7.block b1 (by simp; omega) (fun e => by have := hob b1 e.symm; omega)).trans (Below.heap_alloc w6 _ b1 (by omega)))).trans hcW))
          all_goals
            have hbV := hb.trans (hb6.mono hsb)
            have hs36 := hbV.size
            have hbX := hbV.alloc hs36 (Obj.cells #[.int .i64 (a : Int), .slice A5 (k - a) c5, .slice A6 (q - b) c6] 73)
            have hb7 := hbX.grown hg7 (by first | omega | (simp; done) | (simp; omega)) (fun g hg => (hown.lt g hg).1)
            have hnew : FreshL (w6.alloc (Obj.cells #[.int .i64 (a : Int), .slice A5 (k - a) c5, .slice A6 (q - b) c6] 73)) wr.heap.size w6.heap.size (cHunks (⟨a, ((xs.drop a).take (k - a)), ((ys.drop b).take (q - b))⟩ : PHunk)) [.int .i64 (a : Int), .slice A5 (k - a) c5, .slice A6 (q - b) c6] :=
              FreshL.same (FreshL.two (p0 := .int .i64 a) ⟨rfl, rfl⟩ hX5 hown6 hn56 (Nat.le_refl _)) ((Same.refl _ _ _).alloc (Nat.le_refl _) _)
            have hk6' : ∀ zz ∈ G, (w6.alloc (Obj.cells #[.int .i64 (a : Int), .slice A5 (k - a) c5, .slice A6 (q - b) c6] 73)).heap[zz]? = wr.heap[zz]? := fun zz hq => by
              have := hbd zz (List.mem_append_right _ hq)
              exact (Below.heap_alloc w6 _ zz (by omega)).trans (hb6.block zz this.2)
            have hs66 : wr.heap.size ≤ w6.heap.size := hs6
            have hs77 := hg7.size
            simp only [World.size_alloc] at hs77
            have hs37 : w3.heap.size ≤ w7.heap.size := by omega
            have hob7 : ∀ g, (Value.slice A7 (done.length + 1) c7).ownBlock = some g → g < w.heap.size + 1 ∨ w3.heap.size ≤ g := fun g hg => by
              rcases hat7 with e | e
              · exact hob g (e ▸ hg)
              · rw [e] at hg; simp at hg; omega
            have hsm7 : Same (w.heap.size + 1) w3.heap.size w3 w7 := fun z z1 z2 =>
              (hg7.block z (by simp; omega) (fun e => by have := hob z e.symm; omega)).trans ((Below.heap_alloc w6 _ z (by omega)).trans ((hb6.block z (by omega)).trans (hsm z z1 z2)))
            have hcell7 : w7.cell? ⟨b1, o1 + k, none⟩ = some (.int .i64 (q : Int)) := ((hsm7.cell (a := ⟨b1, o1 + k, none⟩) hb1lo hb1hi).trans (hsm.cell (a := ⟨b1, o1 + k, none⟩) hb1lo hb1hi).symm).trans hcell

            have ho7 := Owns.same _ _ _ ho hk6'
            have hfin := Fresh.grew ho7 hnodup hbd hnew hown7 hg7 hat7 hs6 (by simp) hsb
            have hcons : done.flatMap cHunks ++ cHunks (⟨a, ((xs.drop a).take (k - a)), ((ys.drop b).take (q - b))⟩ : PHunk) = (done ++ [(⟨a, ((xs.drop a).take (k - a)), ((ys.drop b).take (q - b))⟩ : PHunk)]).flatMap cHunks := by simp
            rw [hcons] at hfin
            have Hf := Lib.hid hfin
            clear hfin hcons hnew hk6' hown7 hg7 hat7 hbX hbV hb6 hb5 hX5 hown5 hown6 hg5 hg6 hat5 hat6 hn56 ho hown M1 M2 M3
            go_wp2
            go_roundw
            case rel => exact ⟨k + 1, k + 1, q + 1, _, _, _, _, by omega, by omega, by omega, rfl, by go_num, by go_num, by go_num, by simp; omega, HIn, Lib.hid (by rw [List.append_assoc]; exact Hn.out), Hf.out, hb7, hsm7, hs37, hob7⟩
            case measure => simp [intOf]; omega
        · go_wp2
          go_roundw
          case rel => exact ⟨k + 1, k + 1, q + 1, done, _, _, _, by omega, by omega, by omega, rfl, by go_num, by go_num, by go_num, by omega, HIn, Lib.hid (by have := Htn.out; rwa [if_neg hg, List.nil_append] at this), hf, hb, hsm, hs3r, hob⟩
          case measure => simp [intOf]; omega
    · obtain rfl : k = xs.length + 1 := by omega
      go_wp2
      go_ret
      have ht := ht.out
      rw [List.drop_of_length_le (by rw [Hpl.out]; omega), cutHunks, List.append_nil] at ht
      subst ht
      exact ⟨_, _, _, rfl, hb, hf⟩
end Go.Proofs.YtianpeokdojkbaaDoor
