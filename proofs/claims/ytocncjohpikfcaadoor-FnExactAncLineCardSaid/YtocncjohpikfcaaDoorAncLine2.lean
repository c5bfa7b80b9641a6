/- Walks: line, l8Line, AncLine. -/
import Derived.Test.YtocncjohpikfcaaDoorAncLine
namespace Go.Proofs.YtocncjohpikfcaaDoor
open Go.RowKit

/-- How far the line is written: what is there, and where the next is (-1: nowhere). -/
def LineAt (cs : List PCommit) (a : Nat) (L done : List Int) (z : Int) : Prop := (z = -1 ∧ done = L ∧ done.length ≤ a + 1) ∨ ∃ k f : Nat, z = k ∧ k ≤ f ∧ done ++ lineOf cs f k = L ∧ done.length + f ≤ a
theorem LineAt.start (cs : List PCommit) (a : Nat) : LineAt cs a (lineOf cs a a) [] (a : Int) := .inr ⟨a, a, rfl, Nat.le_refl _, rfl, by simp⟩
theorem LineAt.len {cs : List PCommit} {a : Nat} {L done : List Int} {z : Int} (h : LineAt cs a L done z) : done.length ≤ a + 1 := by
  rcases h with ⟨_, _, h⟩ | ⟨_, _, _, _, _, h⟩ <;> omega
theorem LineAt.step {cs : List PCommit} {a k : Nat} {L done : List Int} (h : LineAt cs a L done (k : Int)) {x : PCommit} (hx : cs[k]? = some x) (hc : commitAt cs k = true) :
    LineAt cs a L (done ++ [(k : Int)]) (firstOf cs k) ∧ -1 ≤ firstOf cs k ∧ firstOf cs k < k := by
  rcases h with ⟨h, _⟩ | ⟨k', f, e, hk, hL, hd⟩
  · omega
  · obtain rfl : k = k' := by omega
    cases hp : x.parents[0]? with
    | none =>
      have hn : (parsOf cs k).head? = none := by rw [parsOf_eq hx, List.head?_eq_getElem?]; exact hp
      have hf : firstOf cs k = -1 := by unfold firstOf; rw [hn]; rfl
      rw [hf]
      exact ⟨.inl ⟨rfl, by rw [← hL, lineOf_last hn], by simp; omega⟩, by omega, by omega⟩
    | some p =>
      obtain ⟨hn, q, rfl, hq⟩ := pars_head hx hc hp
      have hf : firstOf cs k = q := by unfold firstOf; rw [hn]; rfl
      rw [hf]
      exact ⟨.inr ⟨q, f - 1, rfl, by omega, by rw [← hL, lineOf_more hn hq hk]; simp, by simp; omega⟩, by omega, by omega⟩
theorem LineAt.done {cs : List PCommit} {a : Nat} {L done : List Int} (h : LineAt cs a L done (-1)) : done = L := by
  rcases h with ⟨_, h, _⟩ | ⟨_, _, h, _⟩
  · exact h
  · omega

set_option maxRecDepth 100000 in
set_option maxHeartbeats 800000 in
theorem impl_line_any (r : PRepo) (A0 A1 : Option Addr) (n0 c0 n1 c1 : Nat) (w : World) (lo hi : Nat) (h0 : Rep w lo hi (encCommits r.commits) (.slice A0 n0 c0)) (hh : hi ≤ w.heap.size) (hok : repoOk r = true) (a : Nat) (ha : a < r.commits.length) :
    Calls Tryd.prog 59 #[.agg #[.slice A0 n0 c0, .slice A1 n1 c1], .int .i64 a] w fun e w' => ∃ A n c, e = .returned (.slice A n c) ∧ Below w.heap.size w w' ∧ Fresh w' w.heap.size w'.heap.size (encInts (lineOf r.commits a a)) (.slice A n c) := by
  obtain ⟨h16, hall, _⟩ := repoOk_iff.1 hok
  have hl0 := Commits.n h0
  obtain ⟨cs, hcs⟩ : ∃ cs, cs = r.commits := ⟨_, rfl⟩
  rw [← hcs] at hl0 hall h16 ha h0
  rw [← hl0] at ha h16 hall
  have hstart := LineAt.start r.commits a
  obtain ⟨L, hL⟩ : ∃ L, L = lineOf r.commits a a := ⟨_, rfl⟩
  rw [← hL] at hstart ⊢
  rw [← hcs] at hstart
  have Hstart := Lib.hid hstart
  have Hall := Lib.hid hall
  have Hl0 := Lib.hid hl0
  have Hcs := Lib.hid hcs
  clear hl0 hall hok hL hstart hcs
  have ha' : (a : Int) < (n0 : Int) := by omega
  obtain ⟨ii, gi0, gi1, gi2, gi3⟩ := info_parts Tryd.infoIntA
  go_enter Tryd.func59, Tryd.ntmps59
  go_wp2
  refine name_world ?_
  intro W0 hW0
  have hb0 : Below w.heap.size w W0 := by rw [hW0]; exact (Below.refl _ _).alloc (Nat.le_refl _) _
  have q0 : W0.cell? ⟨w.heap.size, 0, none⟩ = some (.slice A0 n0 c0) := by rw [hW0]; simp [go_sem]
  have q1 : W0.cell? ⟨w.heap.size, 1, none⟩ = some (.slice A1 n1 c1) := by rw [hW0]; simp [go_sem]
  have hs0 : w.heap.size < W0.heap.size := by rw [hW0]; simp
  have hh0 : hi ≤ W0.heap.size := by omega
  replace h0 := h0.keep hb0 hh
  clear hW0
  go_loopw [1, 5] (fun p t wr => ∃ (z : Int) (done : List Int) (A' : Option Addr) (n' c' : Nat), p = .int .i64 z ∧ t = .slice A' n' c' ∧ n' = done.length ∧ -1 ≤ z ∧ z < (n0 : Int) ∧ Hid (LineAt cs a L done z) ∧
      wr.ownsRow W0.heap.size 3 1 (.slice A' n' c') n' (done.map fun x => .int .i64 x) ∧ Below W0.heap.size W0 wr) (fun p _ _ => (intOf p + 1).toNat)
  case atStart => exact ⟨a, [], none, 0, 0, rfl, rfl, rfl, by omega, ha', Hstart, by simpa using World.ownsRow_nil W0 _ _ _, Below.refl _ _⟩
  case round =>
    obtain ⟨z, done, A', n', c', rfl, rfl, rfl, hz0, hz1, ht, hown, hb⟩ := hrel
    have hsz := hb.size
    have hdl := ht.out.len
    have q0r : wr.cell? ⟨w.heap.size, 0, none⟩ = some (.slice A0 n0 c0) := (hb.cell (by exact hs0)).trans q0
    have q1r : wr.cell? ⟨w.heap.size, 1, none⟩ = some (.slice A1 n1 c1) := (hb.cell (by exact hs0)).trans q1
    clear ha' Hstart
    by_cases hz : z = -1
    · subst hz
      have hfin := (Fresh.of_row hown (owns_ints _ _)).mono (Nat.le_of_lt hs0) (Nat.le_refl _)
      have hd := ht.out.done
      subst hd
      have Hfin := Lib.hid hfin
      have hbw := hb0.trans (hb.mono hb0.size)
      clear hfin
      go_wp2
      go_ret
      exact ⟨_, _, _, rfl, hbw, Hfin.out⟩
    · obtain ⟨k, rfl⟩ : ∃ k : Nat, z = k := ⟨z.toNat, by omega⟩
      have hk : k < n0 := by omega
      obtain ⟨x, hx⟩ : ∃ x, cs[k]? = some x := ⟨cs[k]'(by rw [← Hl0.out]; exact hk), List.getElem?_eq_getElem _⟩
      obtain ⟨hL, hz2, hz3⟩ := ht.out.step hx (Hall.out k hk)
      have cf := fun W (h : Rep W lo hi (encCommits r.commits) (.slice A0 n0 c0)) hW => impl_first_any r A0 A1 n0 c0 n1 c1 W lo hi h hW k hk
      rw [← Hcs.out] at cf
      obtain ⟨z', hz'⟩ : ∃ z', z' = firstOf cs k := ⟨_, rfl⟩
      rw [← hz'] at hL hz2 hz3 cf
      have HL := Lib.hid hL
      clear hL hz' hx hz
      clear q0r q1r
      go_wp2_with (at_builtin; refine wpList_append_src _ rfl (.tmp 8) (.tmp 10) _ rfl W0.heap.size 3 ii _ 1 8 Tryd.underlying39 gi0 gi1 gi2 gi3 rfl (by omega) _ done.length _ rfl (hown.alloc _) _ 1 1 [.int .i64 (k : Int)] rfl (Src.lit wr 3 [.int .i64 (k : Int)] 1 1 rfl) ?e2 ?e3 ?e4 ?e5 ?_)
      case e2 => first | rfl | (intro u hu; simp at hu; subst hu; rfl)
      case e3 => unfold maxLen; omega
      case e4 => omega
      case e5 => first | omega | (simp; omega)
      intro A4 c4 w4 hown4 hg4 hat4
      have hb4 : Below W0.heap.size W0 w4 := (hb.alloc (by omega) _).grown hg4 (by simp; omega) (fun g hg => (hown.lt g hg).1)
      have q04 : w4.cell? ⟨w.heap.size, 0, none⟩ = some (.slice A0 n0 c0) := (hb4.cell (by exact hs0)).trans q0
      have q14 : w4.cell? ⟨w.heap.size, 1, none⟩ = some (.slice A1 n1 c1) := (hb4.cell (by exact hs0)).trans q1
      have hsz4 := hb4.size
      go_wp2_with fail
      refine Calls.mono (cf _ (h0.keep hb4 hh0) (by omega)) ?_
      rintro e w5 ⟨rfl, hb5⟩
      have hown5 := ownsRow_same (w' := w5) hown4 (fun q hq => hb5.block q (by have := hown4.lt q (by simpa using hq); exact this.2))
      have hbz := hb4.trans (hb5.mono hsz4)
      clear hown4 hb5 hg4
      go_wp2
      go_roundw
      case rel => exact ⟨z', done ++ [(k : Int)], A4, _, c4, rfl, rfl, by simp, hz2, by omega, HL, by simpa using hown5, hbz⟩
      case measure => first | (simp [intOf]; done) | (simp [intOf]; omega)

set_option maxRecDepth 100000 in
set_option maxHeartbeats 800000 in
theorem spec_l8Line_any (r : PRepo) (A0 A1 : Option Addr) (n0 c0 n1 c1 : Nat) (w : World) (lo hi : Nat) (h0 : Rep w lo hi (encCommits r.commits) (.slice A0 n0 c0)) (hh : hi ≤ w.heap.size) (hok : repoOk r = true) (a : Nat) (ha : a < r.commits.length) :
    Calls Tryd.prog 58 #[.agg #[.slice A0 n0 c0, .slice A1 n1 c1], .int .i64 a] w fun e w' => ∃ A n c, e = .returned (.slice A n c) ∧ Below w.heap.size w w' ∧ Fresh w' w.heap.size w'.heap.size (encInts (lineOf r.commits a a)) (.slice A n c) := by
  obtain ⟨h16, hall, _⟩ := repoOk_iff.1 hok
  have hl0 := Commits.n h0
  obtain ⟨cs, hcs⟩ : ∃ cs, cs = r.commits := ⟨_, rfl⟩
  rw [← hcs] at hl0 hall h16 ha h0
  rw [← hl0] at ha h16 hall
  have hstart := LineAt.start r.commits a
  obtain ⟨L, hL⟩ : ∃ L, L = lineOf r.commits a a := ⟨_, rfl⟩
  rw [← hL] at hstart ⊢
  rw [← hcs] at hstart
  have Hstart := Lib.hid hstart
  have Hall := Lib.hid hall
  have Hl0 := Lib.hid hl0
  have Hcs := Lib.hid hcs
  clear hl0 hall hok hL hstart hcs
  have ha' : (a : Int) < (n0 : Int) := by omega
  obtain ⟨ii, gi0, gi1, gi2, gi3⟩ := info_parts Tryd.infoIntA
  go_enter Tryd.func58, Tryd.ntmps58
  go_wp2
  refine name_world ?_
  intro W0 hW0
  have hb0 : Below w.heap.size w W0 := by rw [hW0]; exact ((Below.refl _ _).alloc (Nat.le_refl _) _).alloc (by simp) _
  have hs0 : w.heap.size + 1 < W0.heap.size := by rw [hW0]; simp
  have q0 : W0.cell? ⟨w.heap.size, 0, none⟩ = some (.slice A0 n0 c0) := by rw [hW0]; simp [go_sem]
  have hown0 : W0.ownsRow (w.heap.size + 1) 3 1 (.slice (some ⟨w.heap.size + 1, 0, none⟩) 1 1) 1 [.int .i64 (a : Int)] := by
    rw [hW0]
    have := World.ownsRow_lit (base := w.heap.size + 1) (e := 3) (size := 1) (w.alloc (.cells #[.slice A0 n0 c0, .slice A1 n1 c1] 31)) #[.int .i64 (a : Int)] 1 (by simp) (by unfold maxLen; omega) rfl
    simpa using this
  have hh0 : hi ≤ W0.heap.size := by omega
  clear hW0
  go_loopw [1, 5] (fun p t wr => ∃ (k : Nat) (pre : List Int) (A' : Option Addr) (n' c' : Nat), p = .int .i64 k ∧ t = .slice A' n' c' ∧ n' = (pre ++ [(k : Int)]).length ∧ k < n0 ∧ Hid (LineAt cs a L pre k) ∧
      wr.ownsRow (w.heap.size + 1) 3 1 (.slice A' n' c') n' ((pre ++ [(k : Int)]).map fun x => .int .i64 x) ∧ Below w.heap.size w wr ∧ wr.cell? ⟨w.heap.size, 0, none⟩ = some (.slice A0 n0 c0) ∧ w.heap.size + 1 < wr.heap.size) (fun p _ _ => (intOf p).toNat)
  case atStart => exact ⟨a, [], _, _, _, rfl, rfl, rfl, ha, Hstart, hown0, hb0, q0, hs0⟩
  case round =>
    obtain ⟨k, pre, A', n', c', rfl, rfl, rfl, hk, ht, hown, hb, hq, hsz⟩ := hrel
    have hpl := ht.out.len
    clear ha' Hstart q0 hown0 hb0 hs0 hh0
    have hk' : (k : Int) < (n0 : Int) := by omega
    obtain ⟨b1, o1, x, rfl, _, hbhi, hx, B0, m0, e0, B2, m2, e2, d0, r0, d1, d2, r2⟩ := Commits.at (h0.keep hb hh) hk
    have hn0 := Ints.n r0
    obtain ⟨hpc, hpm⟩ := Ints.cap r0
    subst hn0
    obtain ⟨hL, hz2, hz3⟩ := ht.out.step hx (Hall.out k hk)
    obtain ⟨done, hdone⟩ : ∃ done, done = pre ++ [(k : Int)] := ⟨_, rfl⟩
    have hdl : done.length = pre.length + 1 := by rw [hdone]; simp
    rw [← hdone] at hL hown ⊢
    have hdl2 : done.length ≤ 17 := by omega
    clear hdl
    by_cases hz : x.parents.length = 0
    · have hv : firstOf cs k = -1 := by unfold firstOf; rw [parsOf_eq hx, List.length_eq_zero_iff.1 hz]; rfl
      rw [hv] at hL
      have hd := hL.done
      subst hd
      have Hfin := Lib.hid ((Fresh.of_row hown (owns_ints _ _)).mono (Nat.le_succ _) (Nat.le_refl _))
      have hzi : (x.parents.length : Int) = 0 := by omega
      clear hx d1 d2 r2 hv hL hz2 hz3 hdone
      go_wp2
      go_ret
      exact ⟨_, _, _, rfl, hb, Hfin.out⟩
    · obtain ⟨b5, o5, q, rfl, _, hb5, hqx, f5⟩ := Ints.at r0 (k := 0) (by omega)
      have hv : firstOf cs k = q := by unfold firstOf; rw [parsOf_eq hx, List.head?_eq_getElem?, hqx]; rfl
      have hqr := pars_range hx (Hall.out k hk) q (List.mem_of_getElem? hqx)
      obtain ⟨p, rfl⟩ : ∃ p : Nat, q = p := ⟨q.toNat, by omega⟩
      rw [hv] at hL
      have HL := Lib.hid hL
      have hzi : ¬ (x.parents.length : Int) = 0 := by omega
      have hzp : (0 : Int) < (x.parents.length : Int) := by omega
      clear hx d1 d2 r2 hv hL hqx hdone
      simp only [Nat.add_zero] at f5
      go_wp2_with (at_builtin; refine wpList_append_src _ rfl (.tmp 24) (.tmp 26) _ rfl (w.heap.size + 1) 3 ii _ 1 8 Tryd.underlying39 gi0 gi1 gi2 gi3 rfl (by omega) _ done.length _ rfl (hown.alloc _) _ 1 1 [.int .i64 (p : Int)] rfl (Src.lit wr 3 [.int .i64 (p : Int)] 1 1 rfl) ?e2 ?e3 ?e4 ?e5 ?_)
      case e2 => first | rfl | (intro u hu; simp at hu; subst hu; rfl)
      case e3 => unfold maxLen; omega
      case e4 => omega
      case e5 => first | omega | (simp; omega)
      intro A4 c4 w4 hown4 hg4 hat4
      have hb4 : Below w.heap.size w w4 := (hb.alloc (by omega) _).grown hg4 (by simp; omega) (fun g hg => Nat.le_of_succ_le (hown.lt g hg).1)
      have hbq : Below (w.heap.size + 1) wr w4 := ((Below.refl _ _).alloc (by omega) _).grown hg4 (by simp; omega) (fun g hg => (hown.lt g hg).1)
      have q04 : w4.cell? ⟨w.heap.size, 0, none⟩ = some _ := (hbq.cell (by show w.heap.size < _; omega)).trans hq
      have hsz4 := hbq.size
      clear hg4 hbq hq
      go_wp2
      go_roundw
      case rel => exact ⟨p, done, A4, _, c4, rfl, rfl, by simp, by omega, HL, by simpa using hown4, hb4, q04, by omega⟩
      case measure => first | (simp [intOf]; done) | (simp [intOf]; omega)
end Go.Proofs.YtocncjohpikfcaaDoor
