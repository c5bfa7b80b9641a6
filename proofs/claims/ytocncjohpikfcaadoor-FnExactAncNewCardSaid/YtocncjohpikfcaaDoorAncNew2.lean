/- Walks: AncNew. -/
import Derived.Test.YtocncjohpikfcaaDoorAncNew
import Derived.Test.YtocncjohpikfcaaDoorAncIs2
namespace Go.Proofs.YtocncjohpikfcaaDoor
open Go.RowKit

set_option maxRecDepth 100000 in
set_option maxHeartbeats 800000 in
theorem impl_AncNew_any (a b : Int) (r : PRepo) (A0 A1 : Option Addr) (n0 c0 n1 c1 : Nat) (w : World) (lo hi : Nat) (h0 : Rep w lo hi (encCommits r.commits) (.slice A0 n0 c0)) (h1 : Rep w lo hi (encHeads r.heads) (.slice A1 n1 c1)) (hh : hi ≤ w.heap.size) (hr : okRepoS r) :
    Calls Tryd.prog 37 #[.agg #[.slice A0 n0 c0, .slice A1 n1 c1], .int .i64 a, .int .i64 b] w fun e w' => ∃ A n c, e = .returned (.slice A n c) ∧ Below w.heap.size w w' ∧ Fresh w' w.heap.size w'.heap.size (encInts (ancNew r a b)) (.slice A n c) := by
  have hca := fun w (h0 : Rep w lo hi (encCommits r.commits) (.slice A0 n0 c0)) (h1 : Rep w lo hi (encHeads r.heads) (.slice A1 n1 c1)) g hh hb hp => impl_are_any g [a, b] r A0 A1 n0 c0 n1 c1 w lo hi h0 h1 hh hr (by simp) hb hp
  have hbx := fun o o' => ((Below.refl w.heap.size w).alloc (Nat.le_refl _) o).alloc (by simp) o'
  have Hl0 := Lib.hid (Commits.n h0)
  cases hv : (repoOk r && areIn r.commits.length [a, b])
  · rw [hv] at hca
    rw [ancNew_no hv]
    clear hv
    go_enter Tryd.func37, Tryd.ntmps37
    go_wp2_with fail
    refine Calls.mono (hca _ (h0.keep (hbx _ _) hh) (h1.keep (hbx _ _) hh) (w.heap.size + 1) (by simp; omega) (by simp) ?_) ?_
    · intro j x hx
      rcases j with _ | _ | j <;> simp at hx <;> subst hx <;> simp [go_sem]
    rintro e w1 ⟨rfl, hb1⟩
    have hbw : Below w.heap.size w w1 := (hbx _ _).trans (hb1.mono (by simp; omega))
    have hsz := hbw.size
    clear hb1
    go_wp2
    go_ret
    exact ⟨_, _, _, rfl, hbw, fresh_none _ _ hsz⟩
  · rw [hv] at hca
    obtain ⟨ho, ⟨ka, rfl, hka⟩, kb, rfl, hkb⟩ := are_two hv
    rw [ancNew_clear hv]
    have ha := fun w (h0 : Rep w lo hi (encCommits r.commits) (.slice A0 n0 c0)) hh z hz hcz => impl_since_any r A0 A1 n0 c0 n1 c1 w lo hi h0 hh ho kb ka hkb hka z hz hcz
    clear hv ho hka hkb
    go_enter Tryd.func37, Tryd.ntmps37
    go_wp2_with fail
    refine Calls.mono (hca _ (h0.keep (hbx _ _) hh) (h1.keep (hbx _ _) hh) (w.heap.size + 1) (by simp; omega) (by simp) ?_) ?_
    · intro j x hx
      rcases j with _ | _ | j <;> simp at hx <;> subst hx <;> simp [go_sem]
    rintro e w1 ⟨rfl, hb1⟩
    have q0 := box_two (a := w.heap.size) (j := 0) (v := .slice A0 n0 c0) hb1 (by simp [go_sem]) (by simp)
    have q1 := box_two (a := w.heap.size) (j := 1) (v := .slice A1 n1 c1) hb1 (by simp [go_sem]) (by simp)
    have hbw : Below w.heap.size w w1 := (hbx _ _).trans (hb1.mono (by simp; omega))
    have hsz := hbw.size
    clear hb1
    have hbl : ∀ o, Below w.heap.size w (w1.alloc o) := fun o => hbw.alloc hsz o
    go_wp2_with fail
    refine Calls.mono (ha _ (h0.keep (hbl _) hh) (by simp; omega) w1.heap.size (by simp) (by simp [go_sem])) ?_
    rintro e w2 ⟨A3, n3, c3, rfl, hb2, hf⟩
    have Hf := Lib.hid (hf.mono (lo' := w.heap.size) (by simp; omega) (Nat.le_refl _))
    have hbz := (hbl _).trans (hb2.mono (by simp; omega))
    clear hf
    go_wp2
    go_ret
    exact ⟨_, _, _, rfl, hbz, Hf.out⟩

theorem ancNew_ok {r : PRepo} {a b : Int} (h : repoOk r = false) : ancNew r a b = [] := ancNew_no (by rw [h]; rfl)
theorem ancNew_a {r : PRepo} {a b : Int} (h : inRange a 0 ((r.commits.length : Int) - 1) = false) : ancNew r a b = [] := ancNew_no (by unfold areIn; simp [h])
theorem ancNew_b {r : PRepo} {a b : Int} (h : inRange b 0 ((r.commits.length : Int) - 1) = false) : ancNew r a b = [] := ancNew_no (by unfold areIn; simp [h])
theorem ancNew_in {r : PRepo} {a b : Nat} (h : repoOk r = true) (ha : inRange a 0 ((r.commits.length : Int) - 1) = true) (hb : inRange b 0 ((r.commits.length : Int) - 1) = true) : ancNew r a b = (idxOf (ancs r.commits b)).filter fun y => !hasI (idxOf (ancs r.commits a)) y :=
  ancNew_yes (by unfold areIn; simp [h, ha, hb])
set_option maxRecDepth 100000 in
set_option maxHeartbeats 800000 in
theorem spec_AncNew_any (a b : Int) (r : PRepo) (A0 A1 : Option Addr) (n0 c0 n1 c1 : Nat) (w : World) (lo hi : Nat) (h0 : Rep w lo hi (encCommits r.commits) (.slice A0 n0 c0)) (h1 : Rep w lo hi (encHeads r.heads) (.slice A1 n1 c1)) (hh : hi ≤ w.heap.size) (hr : okRepoS r) :
    Calls Tryd.prog 36 #[.agg #[.slice A0 n0 c0, .slice A1 n1 c1], .int .i64 a, .int .i64 b] w fun e w' => ∃ A n c, e = .returned (.slice A n c) ∧ Below w.heap.size w w' ∧ Fresh w' w.heap.size w'.heap.size (encInts (ancNew r a b)) (.slice A n c) := by
  have hc := fun w (h0 : Rep w lo hi (encCommits r.commits) (.slice A0 n0 c0)) (h1 : Rep w lo hi (encHeads r.heads) (.slice A1 n1 c1)) hh => spec_l7Ok_any r A0 A1 n0 c0 n1 c1 w lo hi h0 h1 hh hr
  have ca := fun w => spec_l1In_any a 0 ((r.commits.length : Int) - 1) w
  have cb := fun w => spec_l1In_any b 0 ((r.commits.length : Int) - 1) w
  have hbx := fun o o' => ((Below.refl w.heap.size w).alloc (Nat.le_refl _) o).alloc (by simp) o'
  obtain ⟨ii, gi0, gi1, gi2, gi3⟩ := info_parts Tryd.infoIntA
  have hl0 := Commits.n h0
  have h16 : n0 ≤ 1048576 := by rw [hl0]; exact hr.1
  rw [← hl0] at ca cb
  have Hl0 := Lib.hid hl0
  clear hl0
  cases t1 : repoOk r
  all_goals rw [t1] at hc
  · rw [ancNew_ok (a := a) (b := b) t1]
    clear t1
    go_enter Tryd.func36, Tryd.ntmps36
    go_wp2_with fail
    refine Calls.mono (hc _ (h0.keep (hbx _ _) hh) (h1.keep (hbx _ _) hh) (by simp; omega)) ?_
    rintro e w1 ⟨rfl, hb1⟩
    have hbw : Below w.heap.size w w1 := (hbx _ _).trans (hb1.mono (by simp; omega))
    clear hb1
    go_wp2
    go_ret
    exact ⟨_, _, _, rfl, hbw, fresh_none _ _ hbw.size⟩
  · cases t2 : inRange a 0 ((n0 : Int) - 1)
    all_goals rw [t2] at ca
    · rw [ancNew_a (r := r) (b := b) (by rw [← Hl0.out]; exact t2)]
      clear t1 t2
      go_enter Tryd.func36, Tryd.ntmps36
      go_wp2_with fail
      refine Calls.mono (hc _ (h0.keep (hbx _ _) hh) (h1.keep (hbx _ _) hh) (by simp; omega)) ?_
      rintro e w1 ⟨rfl, hb1⟩
      have q0 := box_two (a := w.heap.size) (j := 0) (v := .slice A0 n0 c0) hb1 (by simp [go_sem]) (by simp)
      have hbw : Below w.heap.size w w1 := (hbx _ _).trans (hb1.mono (by simp; omega))
      clear hb1
      go_wp2_with fail
      refine Calls.mono (ca _) ?_
      rintro e w2 ⟨rfl, rfl⟩
      go_wp2
      go_ret
      exact ⟨_, _, _, rfl, hbw, fresh_none _ _ hbw.size⟩
    · cases t3 : inRange b 0 ((n0 : Int) - 1)
      all_goals rw [t3] at cb
      · rw [ancNew_b (r := r) (a := a) (by rw [← Hl0.out]; exact t3)]
        clear t1 t2 t3
        go_enter Tryd.func36, Tryd.ntmps36
        go_wp2_with fail
        refine Calls.mono (hc _ (h0.keep (hbx _ _) hh) (h1.keep (hbx _ _) hh) (by simp; omega)) ?_
        rintro e w1 ⟨rfl, hb1⟩
        have q0 := box_two (a := w.heap.size) (j := 0) (v := .slice A0 n0 c0) hb1 (by simp [go_sem]) (by simp)
        have hbw : Below w.heap.size w w1 := (hbx _ _).trans (hb1.mono (by simp; omega))
        clear hb1
        go_wp2_with fail
        refine Calls.mono (ca _) ?_
        rintro e w2 ⟨rfl, rfl⟩
        go_wp2_with fail
        refine Calls.mono (cb _) ?_
        rintro e w2 ⟨rfl, rfl⟩
        go_wp2
        go_ret
        exact ⟨_, _, _, rfl, hbw, fresh_none _ _ hbw.size⟩
      · obtain ⟨ka, rfl, hka⟩ := inRange_nat t2
        obtain ⟨kb, rfl, hkb⟩ := inRange_nat t3
        rw [ancNew_in t1 (by rw [← Hl0.out]; exact t2) (by rw [← Hl0.out]; exact t3)]
        have c9 := fun w (h0 : Rep w lo hi (encCommits r.commits) (.slice A0 n0 c0)) hh => spec_l8All_any r A0 A1 n0 c0 n1 c1 w lo hi h0 hh t1 ka (by rw [← Hl0.out]; exact hka)
        have c8 := fun w (h0 : Rep w lo hi (encCommits r.commits) (.slice A0 n0 c0)) hh => spec_l8All_any r A0 A1 n0 c0 n1 c1 w lo hi h0 hh t1 kb (by rw [← Hl0.out]; exact hkb)
        have hla := idxOf_len (ancs r.commits ka)
        have hlb := idxOf_len (ancs r.commits kb)
        rw [ancs_len, ← Hl0.out] at hla hlb
        have h16' : n0 ≤ 16 := by rw [Hl0.out]; exact (repoOk_iff.1 t1).1
        obtain ⟨xs, hxs⟩ : ∃ xs, xs = idxOf (ancs r.commits ka) := ⟨_, rfl⟩
        obtain ⟨ys, hys⟩ : ∃ ys, ys = idxOf (ancs r.commits kb) := ⟨_, rfl⟩
        rw [← hxs] at hla c9 ⊢
        rw [← hys] at hlb c8 ⊢
        clear hxs hys t1 t2 t3 hka hkb
        go_enter Tryd.func36, Tryd.ntmps36
        go_wp2_with fail
        refine Calls.mono (hc _ (h0.keep (hbx _ _) hh) (h1.keep (hbx _ _) hh) (by simp; omega)) ?_
        rintro e w1 ⟨rfl, hb1⟩
        have q0 := box_two (a := w.heap.size) (j := 0) (v := .slice A0 n0 c0) hb1 (by simp [go_sem]) (by simp)
        have q1 := box_two (a := w.heap.size) (j := 1) (v := .slice A1 n1 c1) hb1 (by simp [go_sem]) (by simp)
        have hbw : Below w.heap.size w w1 := (hbx _ _).trans (hb1.mono (by simp; omega))
        have hsz := hbw.size
        have hE : ((w.alloc (.cells #[.slice A0 n0 c0, .slice A1 n1 c1] 31)).alloc (.cells #[] 3)).ownsRow w.heap.size 3 1 (.slice (some ⟨w.heap.size + 1, 0, none⟩) 0 0) 0 [] := by
          have := World.ownsRow_made (base := w.heap.size) (e := 3) (size := 1) (w.alloc (.cells #[.slice A0 n0 c0, .slice A1 n1 c1] 31)) #[] 0 (by simp) (Nat.zero_le _) rfl
          simpa using this
        have hE1 := ownsRow_same (w' := w1) hE (fun q hq => hb1.block q (by have := hE.lt q (by simpa using hq); exact this.2))
        have hs1 : w.heap.size + 1 < w1.heap.size := by have := hb1.size; simp at this; omega
        clear hE
        clear hb1
        go_wp2_with fail
        refine Calls.mono (ca _) ?_
        rintro e w2 ⟨rfl, rfl⟩
        go_wp2_with fail
        refine Calls.mono (cb _) ?_
        rintro e w2 ⟨rfl, rfl⟩
        go_wp2_with fail
        refine Calls.mono (c9 _ (h0.keep hbw hh) (by omega)) ?_
        rintro e w2 ⟨A3, n3, c3, rfl, hb2, hf3⟩
        have hR3 := hf3.rep
        have hs2 := hb2.size
        have hbw2 := hbw.trans (hb2.mono hsz)
        have q02 : w2.cell? ⟨w.heap.size, 0, none⟩ = some (.slice A0 n0 c0) := (hb2.cell (by show w.heap.size < _; omega)).trans q0
        have q12 : w2.cell? ⟨w.heap.size, 1, none⟩ = some (.slice A1 n1 c1) := (hb2.cell (by show w.heap.size < _; omega)).trans q1
        clear hf3 q0 q1
        go_wp2_with fail
        refine Calls.mono (c8 _ (h0.keep hbw2 hh) (by omega)) ?_
        rintro e w3 ⟨A4, n4, c4, rfl, hb3, hf4⟩
        have hR4 := hf4.rep
        have hs3 := hb3.size
        have hR3' : Rep w3 w1.heap.size w3.heap.size (encInts xs) (.slice A3 n3 c3) := (hR3.keep hb3 (Nat.le_refl _)).mono (Nat.le_refl _) hs3
        have hR4' : Rep w3 w1.heap.size w3.heap.size (encInts ys) (.slice A4 n4 c4) := hR4.mono hs2 (Nat.le_refl _)
        have hb23 := hb2.trans (hb3.mono hs2)
        have hE3 := ownsRow_same (w' := w3) hE1 (fun q hq => hb23.block q (by have := hE1.lt q (by simpa using hq); exact this.2))
        have hbw3 := hbw.trans (hb23.mono hsz)
        have hn4 := Ints.n hR4'
        obtain ⟨hc4, hm4⟩ := Ints.cap hR4'
        subst hn4
        clear hf4 hR3 hR4 hE1 hbw hbw2 hb2 hb3 hb23 q02 q12 c8 c9 ca cb hc
        go_wp2
        go_loopw [7, 10] (fun t i wr => ∃ (k : Nat) (A' : Option Addr) (n' c' : Nat), k ≤ ys.length ∧ i = .int .i64 k ∧ t = .slice A' n' c' ∧ n' = ((ys.take k).filter fun y => !hasI xs y).length ∧
            wr.ownsRow w.heap.size 3 1 (.slice A' n' c') n' (((ys.take k).filter fun y => !hasI xs y).map fun x => .int .i64 x) ∧ Below w.heap.size w wr ∧ w3.heap.size ≤ wr.heap.size ∧
            Hid (∀ q, (Value.slice A' n' c').ownBlock = some q → q < w1.heap.size ∨ w3.heap.size ≤ q) ∧ Same w1.heap.size w3.heap.size w3 wr) (fun _ i _ => ys.length - (intOf i).toNat)
        case atStart => exact ⟨0, _, _, _, Nat.zero_le _, rfl, rfl, by simp, by simpa using hE3, hbw3, Nat.le_refl _, Lib.hid (fun q hq => by simp [Value.ownBlock] at hq; omega), fun _ _ _ => rfl⟩
        case round =>
          obtain ⟨k, A', n', c', hk, rfl, rfl, hn', hown, hb, hszr, hown', hsame⟩ := hrel
          clear hE3 hbw3
          have hX := hR3'.same hsame
          by_cases hkn : k < ys.length
          · have hkn' : (k : Int) < (ys.length : Int) := by omega
            obtain ⟨b5, o5, y, rfl, _, _, hy, d5⟩ := Ints.at (hR4'.same hsame) hkn
            have hstep : ((ys.take (k + 1)).filter fun y => !hasI xs y) = ((ys.take k).filter fun y => !hasI xs y) ++ (if !hasI xs y then [y] else []) := by
              rw [List.take_add_one, hy, List.filter_append]
              congr 1
              simp only [Option.toList, List.filter_cons, List.filter_nil]
            have hlen : ((ys.take k).filter fun y => !hasI xs y).length ≤ 16 := Nat.le_trans (List.length_filter_le _ _) (by simp; omega)
            have c5 := spec_l8Has_any _ _ _ xs y wr _ _ hX hszr (by omega)
            obtain ⟨done, hdone⟩ : ∃ done, done = ((ys.take k).filter fun y => !hasI xs y) := ⟨_, rfl⟩
            rw [← hdone] at hn' hown hstep hlen
            subst hn'
            clear hy hdone
            cases hh5 : hasI xs y
            · rw [hh5] at c5 hstep
              have Hstep := Lib.hid hstep
              clear hstep hh5
              go_wp2_with fail
              refine Calls.mono c5 ?_
              rintro e wx ⟨rfl, rfl⟩
              go_wp2_with (at_builtin; refine wpList_append_src _ rfl (.tmp 52) (.tmp 57) _ rfl w.heap.size 3 ii _ 1 8 Tryd.underlying39 gi0 gi1 gi2 gi3 rfl (by omega) _ done.length _ rfl (hown.alloc _) _ 1 1 [.int .i64 y] rfl (Src.lit wr 3 [.int .i64 y] 1 1 rfl) ?e2 ?e3 ?e4 ?e5 ?_)
              case e2 => first | rfl | (intro u hu; simp at hu; subst hu; rfl)
              case e3 => unfold maxLen; omega
              case e4 => omega
              case e5 => first | omega | (simp; omega)
              intro A7 c7 w7 hown7 hg7 hat7
              have hb7 : Below w.heap.size w w7 := (hb.alloc (by omega) _).grown hg7 (by simp; omega) (fun g hg => (hown.lt g hg).1)
              have hs7 := hg7.size
              simp at hs7
              have hsm7 : Same w1.heap.size w3.heap.size w3 w7 := fun q h1 h2 => ((hg7.block q (by simp; omega) (fun e => by have := hown'.out q e.symm; omega)).trans (Below.heap_alloc wr _ q (by omega))).trans (hsame q h1 h2)
              have hoq : ∀ q, (Value.slice A7 (done.length + 1) c7).ownBlock = some q → q < w1.heap.size ∨ w3.heap.size ≤ q := fun q hq => by
                rcases hat7 with e | e
                · rw [e] at hq; exact hown'.out q hq
                · rw [e] at hq; simp at hq; omega
              have Hoq := Lib.hid hoq
              clear hoq hat7 hg7
              go_wp2
              go_roundw
              case rel => exact ⟨k + 1, A7, _, c7, by omega, by go_num, rfl, by rw [Hstep.out]; simp, by rw [Hstep.out]; simpa using hown7, hb7, by omega, Hoq, hsm7⟩
              case measure => first | (simp [intOf]; done) | (simp [intOf]; omega)
            · rw [hh5] at c5 hstep
              have Hstep := Lib.hid hstep
              clear hstep hh5
              go_wp2_with fail
              refine Calls.mono c5 ?_
              rintro e wx ⟨rfl, rfl⟩
              go_wp2
              go_roundw
              case rel => exact ⟨k + 1, A', _, c', by omega, by go_num, rfl, by rw [Hstep.out]; simp, by rw [Hstep.out]; simpa using hown, hb, hszr, hown', hsame⟩
              case measure => first | (simp [intOf]; done) | (simp [intOf]; omega)
          · obtain rfl : k = ys.length := by omega
            rw [List.take_length] at hn' hown
            have hfin := Fresh.of_row hown (owns_ints _ _)
            subst hn'
            have Hfin := Lib.hid hfin
            clear hfin
            go_wp2
            go_ret
            exact ⟨_, _, _, rfl, hb, Hfin.out⟩
end Go.Proofs.YtocncjohpikfcaaDoor
