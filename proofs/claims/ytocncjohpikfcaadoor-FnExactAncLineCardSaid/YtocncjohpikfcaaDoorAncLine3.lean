/- Walks: AncLine. -/
import Derived.Test.YtocncjohpikfcaaDoorAncLine2
namespace Go.Proofs.YtocncjohpikfcaaDoor
open Go.RowKit

theorem Ints.src {w : World} {lo hi e n c : Nat} {A : Option Addr} {xs : List Int} (h : Rep w lo hi (encIntsE e xs) (.slice A n c)) : Src w 1 A n (xs.map fun s => .int .i64 s) := by
  refine ⟨by rw [Ints.n h]; simp, fun hn => ?_⟩
  obtain ⟨b, o, _, hA, _⟩ := Ints.at h hn
  refine ⟨b, o, hA, fun j u hu => ?_⟩
  have hj : j < n := by have := (List.getElem?_eq_some_iff.1 hu).1; rw [Ints.n h]; simpa using this
  obtain ⟨b', o', x, hA', _, _, hx, hc⟩ := Ints.at h hj
  rw [hA] at hA'
  simp only [Option.some.injEq, Addr.mk.injEq, and_true] at hA'
  obtain ⟨rfl, rfl⟩ := hA'
  rw [List.getElem?_map, hx] at hu
  simp at hu
  rw [← hu]; exact hc
set_option maxRecDepth 100000 in
set_option maxHeartbeats 800000 in
theorem impl_AncLine_any (a : Int) (r : PRepo) (A0 A1 : Option Addr) (n0 c0 n1 c1 : Nat) (w : World) (lo hi : Nat) (h0 : Rep w lo hi (encCommits r.commits) (.slice A0 n0 c0)) (h1 : Rep w lo hi (encHeads r.heads) (.slice A1 n1 c1)) (hh : hi ≤ w.heap.size) (hr : okRepoS r) :
    Calls Tryd.prog 22 #[.agg #[.slice A0 n0 c0, .slice A1 n1 c1], .int .i64 a] w fun e w' => ∃ A n c, e = .returned (.slice A n c) ∧ Below w.heap.size w w' ∧ Fresh w' w.heap.size w'.heap.size (encInts (ancLine r a)) (.slice A n c) := by
  have hca := fun w (h0 : Rep w lo hi (encCommits r.commits) (.slice A0 n0 c0)) (h1 : Rep w lo hi (encHeads r.heads) (.slice A1 n1 c1)) g hh hb hp => impl_are_any g [a] r A0 A1 n0 c0 n1 c1 w lo hi h0 h1 hh hr (by simp) hb hp
  have hbx := fun o o' => ((Below.refl w.heap.size w).alloc (Nat.le_refl _) o).alloc (by simp) o'
  have Hl0 := Lib.hid (Commits.n h0)
  have h16 := Lib.hid hr.1
  cases hv : (repoOk r && areIn r.commits.length [a])
  · rw [hv] at hca
    rw [ancLine_no hv]
    clear hv
    go_enter Tryd.func22, Tryd.ntmps22
    go_wp2_with fail
    refine Calls.mono (hca _ (h0.keep (hbx _ _) hh) (h1.keep (hbx _ _) hh) (w.heap.size + 1) (by simp; omega) (by simp) ?_) ?_
    · intro j x hx
      rcases j with _ | j <;> simp at hx <;> subst hx <;> simp [go_sem]
    rintro e w1 ⟨rfl, hb1⟩
    have hbw : Below w.heap.size w w1 := (hbx _ _).trans (hb1.mono (by simp; omega))
    have hsz := hbw.size
    clear hb1
    go_wp2
    go_ret
    exact ⟨_, _, _, rfl, hbw, fresh_none _ _ hsz⟩
  · rw [hv] at hca
    obtain ⟨ho, ka, rfl, hka⟩ := are_one hv
    rw [ancLine_yes hv]
    have ha := fun w (h0 : Rep w lo hi (encCommits r.commits) (.slice A0 n0 c0)) hh => impl_line_any r A0 A1 n0 c0 n1 c1 w lo hi h0 hh ho ka hka
    clear hv ho hka
    go_enter Tryd.func22, Tryd.ntmps22
    go_wp2_with fail
    refine Calls.mono (hca _ (h0.keep (hbx _ _) hh) (h1.keep (hbx _ _) hh) (w.heap.size + 1) (by simp; omega) (by simp) ?_) ?_
    · intro j x hx
      rcases j with _ | j <;> simp at hx <;> subst hx <;> simp [go_sem]
    rintro e w1 ⟨rfl, hb1⟩
    have q0 := box_two (a := w.heap.size) (j := 0) (v := .slice A0 n0 c0) hb1 (by simp [go_sem]) (by simp)
    have q1 := box_two (a := w.heap.size) (j := 1) (v := .slice A1 n1 c1) hb1 (by simp [go_sem]) (by simp)
    have hbw : Below w.heap.size w w1 := (hbx _ _).trans (hb1.mono (by simp; omega))
    have hsz := hbw.size
    clear hb1
    go_wp2_with fail
    refine Calls.mono (ha _ (h0.keep hbw hh) (by omega)) ?_
    rintro e w2 ⟨A3, n3, c3, rfl, hb2, hf⟩
    have Hf5 := Lib.hid (hf.mono hsz (Nat.le_refl _))
    clear hf
    go_wp2
    go_ret
    exact ⟨_, _, _, rfl, hbw.trans (hb2.mono hsz), Hf5.out⟩

theorem ancLine_ok {r : PRepo} {a : Int} (h : repoOk r = false) : ancLine r a = [] := ancLine_no (by rw [h]; rfl)
theorem ancLine_a {r : PRepo} {a : Int} (h : inRange a 0 ((r.commits.length : Int) - 1) = false) : ancLine r a = [] := ancLine_no (by unfold areIn; simp [h])
theorem ancLine_in {r : PRepo} {a : Nat} (h : repoOk r = true) (ha : inRange a 0 ((r.commits.length : Int) - 1) = true) : ancLine r a = lineOf r.commits a a := ancLine_yes (by unfold areIn; simp [h, ha])

set_option maxRecDepth 100000 in
set_option maxHeartbeats 800000 in
theorem spec_AncLine_any (a : Int) (r : PRepo) (A0 A1 : Option Addr) (n0 c0 n1 c1 : Nat) (w : World) (lo hi : Nat) (h0 : Rep w lo hi (encCommits r.commits) (.slice A0 n0 c0)) (h1 : Rep w lo hi (encHeads r.heads) (.slice A1 n1 c1)) (hh : hi ≤ w.heap.size) (hr : okRepoS r) :
    Calls Tryd.prog 21 #[.agg #[.slice A0 n0 c0, .slice A1 n1 c1], .int .i64 a] w fun e w' => ∃ A n c, e = .returned (.slice A n c) ∧ Below w.heap.size w w' ∧ Fresh w' w.heap.size w'.heap.size (encInts (ancLine r a)) (.slice A n c) := by
  have hc := fun w (h0 : Rep w lo hi (encCommits r.commits) (.slice A0 n0 c0)) (h1 : Rep w lo hi (encHeads r.heads) (.slice A1 n1 c1)) hh => spec_l7Ok_any r A0 A1 n0 c0 n1 c1 w lo hi h0 h1 hh hr
  have ca := fun w => spec_l1In_any a 0 ((r.commits.length : Int) - 1) w
  have hbx := fun o o' => ((Below.refl w.heap.size w).alloc (Nat.le_refl _) o).alloc (by simp) o'
  obtain ⟨ii, gi0, gi1, gi2, gi3⟩ := info_parts Tryd.infoIntA
  have hl0 := Commits.n h0
  have h16 : n0 ≤ 1048576 := by rw [hl0]; exact hr.1
  rw [← hl0] at ca
  have Hl0 := Lib.hid hl0
  clear hl0
  cases t1 : repoOk r
  all_goals rw [t1] at hc
  · rw [ancLine_ok t1]
    clear t1
    go_enter Tryd.func21, Tryd.ntmps21
    go_wp2_with fail
    refine Calls.mono (hc _ (h0.keep (hbx _ _) hh) (h1.keep (hbx _ _) hh) (by simp; omega)) ?_
    rintro e w1 ⟨rfl, hb1⟩
    have hbw : Below w.heap.size w w1 := (hbx _ _).trans (hb1.mono (by simp; omega))
    have hsz := hbw.size
    clear hb1
    go_wp2
    go_ret
    exact ⟨_, _, _, rfl, hbw, fresh_none _ _ hsz⟩
  · cases t2 : inRange a 0 ((n0 : Int) - 1)
    all_goals rw [t2] at ca
    · rw [ancLine_a (by rw [← Hl0.out]; exact t2)]
      clear t1 t2
      go_enter Tryd.func21, Tryd.ntmps21
      go_wp2_with fail
      refine Calls.mono (hc _ (h0.keep (hbx _ _) hh) (h1.keep (hbx _ _) hh) (by simp; omega)) ?_
      rintro e w1 ⟨rfl, hb1⟩
      have q0 := box_two (a := w.heap.size) (j := 0) (v := .slice A0 n0 c0) hb1 (by simp [go_sem]) (by simp)
      have hbw : Below w.heap.size w w1 := (hbx _ _).trans (hb1.mono (by simp; omega))
      have hsz := hbw.size
      clear hb1
      go_wp2_with fail
      refine Calls.mono (ca _) ?_
      rintro e w2 ⟨rfl, rfl⟩
      go_wp2
      go_ret
      exact ⟨_, _, _, rfl, hbw, fresh_none _ _ hsz⟩
    · obtain ⟨ka, rfl, hka⟩ := inRange_nat t2
      rw [ancLine_in t1 (by rw [← Hl0.out]; exact t2)]
      have c8 := fun w (h0 : Rep w lo hi (encCommits r.commits) (.slice A0 n0 c0)) hh => spec_l8Line_any r A0 A1 n0 c0 n1 c1 w lo hi h0 hh t1 ka (by rw [← Hl0.out]; exact hka)
      have Hka : Hid (ka < 1048576) := Lib.hid (by omega)
      clear t1 t2 hka
      go_enter Tryd.func21, Tryd.ntmps21
      go_wp2_with fail
      refine Calls.mono (hc _ (h0.keep (hbx _ _) hh) (h1.keep (hbx _ _) hh) (by simp; omega)) ?_
      rintro e w1 ⟨rfl, hb1⟩
      have q0 := box_two (a := w.heap.size) (j := 0) (v := .slice A0 n0 c0) hb1 (by simp [go_sem]) (by simp)
      have q1 := box_two (a := w.heap.size) (j := 1) (v := .slice A1 n1 c1) hb1 (by simp [go_sem]) (by simp)
      have hbw : Below w.heap.size w w1 := (hbx _ _).trans (hb1.mono (by simp; omega))
      have hsz := hbw.size
      have hE : ((w.alloc (.cells #[.slice A0 n0 c0, .slice A1 n1 c1] 31)).alloc (.cells #[] 3)).ownsRow w.heap.size 3 1 (.slice (some ⟨w.heap.size + 1, 0, none⟩) 0 0) 0 [] := by
        have := World.ownsRow_made (base := w.heap.size) (e := 3) (size := 1) (w.alloc (.cells #[.slice A0 n0 c0, .slice A1 n1 c1] 31)) #[] 0 (by simp) (Nat.zero_le _) rfl
        simpa using this
      have hE1 := ownsRow_same (w' := w1) hE (fun q hq => hb1.block q (by have := hE.lt q (by simpa using hq); exact this.2))
      clear hE
      clear hb1
      go_wp2_with fail
      refine Calls.mono (ca _) ?_
      rintro e w2 ⟨rfl, rfl⟩
      go_wp2_with fail
      refine Calls.mono (c8 _ (h0.keep hbw hh) (by omega)) ?_
      rintro e w2 ⟨A3, n3, c3, rfl, hb2, hf⟩
      have hsz2 := hb2.size
      have hE2 := ownsRow_same (w' := w2) hE1 (fun q hq => hb2.block q (by have := hE1.lt q (by simpa using hq); exact this.2))
      have hn3 := Ints.n hf.rep
      obtain ⟨hc3, hm3⟩ := Ints.cap hf.rep
      have hS := Ints.src hf.rep
      have hl16 : n3 ≤ 1048576 := by rw [hn3]; have := lineOf_len r.commits ka ka; have := Hka.out; omega
      have Hn3 := Lib.hid hn3
      clear hf hn3 hE1
      go_wp2_with (at_builtin; (refine wpList_append_src _ rfl (.tmp 19) (.tmp 22) _ rfl w.heap.size 3 ii _ 1 8 Tryd.underlying39 gi0 gi1 gi2 gi3 rfl (by omega) _ 0 [] rfl hE2 _ n3 c3 _ rfl hS ?e2 ?e3 ?e4 ?e5 ?_))
      case e2 => intro u hu; simp at hu; obtain ⟨s, _, rfl⟩ := hu; rfl
      case e3 => unfold maxLen; omega
      case e4 => omega
      case e5 => first | omega | (simp; omega) | simp
      intro A4 c4 w4 hown4 hg4 _
      have hb4 : Below w.heap.size w w4 := (hbw.trans (hb2.mono hsz)).grown hg4 (by first | omega | (simp; omega)) (fun g hg => (hE2.lt g hg).1)
      have Hfin := Lib.hid (Fresh.of_row hown4 (owns_ints _ _))
      clear hown4
      go_wp2
      go_ret
      exact ⟨_, _, _, rfl, hb4, Hfin.out⟩
end Go.Proofs.YtocncjohpikfcaaDoor
