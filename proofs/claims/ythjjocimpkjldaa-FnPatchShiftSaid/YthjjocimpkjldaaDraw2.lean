/- Walks: a draw's pick out of a list; lines. -/
import Derived.Test.YthjjocimpkjldaaDrawOf
namespace Go.Proofs.Ythjjocimpkjldaa
open Go.RowKit

theorem spec_one_any (b m : Nat) (A : Option Addr) (n c : Nat) (xs : List Int) (w : World) (lo hi : Nat) (h : Rd w b m) (hm : m ≤ 1000000) (hr : Rep w lo hi (encInts xs) (.slice A n c)) (hbl : b < lo) (hh : hi ≤ w.heap.size) (hne : 0 < xs.length) :
    Calls Try.prog 53 #[.pointer (some ⟨b, 0, none⟩), .slice A n c] w fun e w' => ∃ s ∈ xs, e = .returned (.int .i64 s) ∧ Rolls w.heap.size b w w' ∧ Rd w' b (m + 1) ∧ w'.heap.size = w.heap.size := by
  have hl := Ints.n hr
  obtain ⟨hc, hmx⟩ := Ints.cap hr
  subst hl
  go_enter Try.func53, Try.ntmps53
  go_wp2_with fail
  refine Calls.mono (spec_pick_any b m _ w h hm) ?_
  rintro e w1 ⟨v, rfl, v0, v1, z1, z2, z3⟩
  obtain ⟨k, rfl⟩ := Int.eq_ofNat_of_zero_le v0
  have hk : k < xs.length := by omega
  obtain ⟨b1, o1, s, rfl, _, _, hs, hcell⟩ := Ints.at (hr.same (z1.same hh (.inl hbl))) hk
  have hk' : (k : Int) < (xs.length : Int) := by omega
  clear v1
  go_wp2
  go_ret
  exact ⟨s, List.mem_of_getElem? hs, rfl, z1, z2, z3⟩

theorem spec_l30Line_any (b m : Nat) (w : World) (h : Rd w b m) (hm : m ≤ 1000000) :
    Calls Try.prog 62 #[.pointer (some ⟨b, 0, none⟩)] w fun e w' => ∃ s : Str, s.length ≤ 20 ∧ e = .returned (.string ⟨s.toArray⟩) ∧ Rolls w.heap.size b w w' ∧ Rd w' b (m + 1) := by
  have hlt := h.lt
  go_enter Try.func62, Try.ntmps62
  go_wp2_with fail
  have hL := lit_text w 9 [[97], [98], [99], [100], [], [120, 32, 121], [115, 101, 101, 32, 97], [115, 101, 101, 32, 100, 47, 101], [101, 110, 100]] (by decide)
  refine Calls.mono (spec_of_any b m _ _ _ [[97], [98], [99], [100], [], [120, 32, 121], [115, 101, 101, 32, 97], [115, 101, 101, 32, 100, 47, 101], [101, 110, 100]] _ _ _ (h.alloc _) hm hL hlt (by simp) (by decide)) ?_
  rintro e w1 ⟨s, hs, rfl, z1, z2, z3⟩
  go_wp2
  go_ret
  refine ⟨s, ?_, rfl, ((Rolls.refl _ _ _).alloc (Nat.le_refl _) _).trans (z1.mono (by simp)), z2⟩
  simp only [List.mem_cons, List.not_mem_nil, or_false] at hs
  rcases hs with rfl | rfl | rfl | rfl | rfl | rfl | rfl | rfl | rfl <;> decide

/-- A text of the draw's own: its cells lie in a block of its own, at B or above. -/
def Mine (w : World) (B : Nat) (xs : List Str) (v : Value) : Prop := w.ownsRow B 9 1 v xs.length (xs.map fun s => .string ⟨s.toArray⟩) ∧ ∀ s ∈ xs, s.length ≤ 20

theorem Mine.rolls {w w' : World} {b B : Nat} {xs : List Str} {v : Value} (h : Mine w B xs v) (hr : Rolls w.heap.size b w w') (hb : b < B) : Mine w' B xs v :=
  ⟨ownsRow_same h.1 fun k hk => by
    have := h.1.lt k (by simpa using hk)
    exact hr.block k this.2 (by omega), h.2⟩

theorem spec_l30Text_any (b m : Nat) (w : World) (h : Rd w b m) (hm : m ≤ 900000) :
    Calls Try.prog 60 #[.pointer (some ⟨b, 0, none⟩)] w fun e w' => ∃ (xs : List Str) (v : Value) (m' : Nat), e = .returned v ∧ Mine w' w.heap.size xs v ∧ xs.length ≤ 8 ∧ Rolls w.heap.size b w w' ∧ Rd w' b m' ∧ m' ≤ m + 10 := by
  have hlt := h.lt
  obtain ⟨i, hi0, hi1, hi2, hi3⟩ := info_parts Try.infoStr
  go_enter Try.func60, Try.ntmps60
  go_wp2_with fail
  have hL := lit_ints (w.alloc (.cells #[] 9)) 3 [0, 1, 3, 5, 8] (by decide)
  simp only [World.size_alloc] at hL
  refine Calls.mono (spec_one_any b m _ _ _ [0, 1, 3, 5, 8] _ _ _ ((h.alloc _).alloc _) (by omega) hL (by omega) (by simp) (by decide)) ?_
  rintro e w1 ⟨q, hq, rfl, z1, z2, z3⟩
  obtain ⟨q, rfl⟩ : ∃ k : Nat, q = k := ⟨q.toNat, by simp at hq; omega⟩
  have hq8 : q ≤ 8 := by simp at hq; omega
  have z0 : Rolls w.heap.size b w w1 := (((Rolls.refl _ _ _).alloc (Nat.le_refl _) _).alloc (by simp) _).trans (z1.mono (by simp; omega))
  have hM : Mine w1 w.heap.size [] (.slice (some ⟨w.heap.size, 0, none⟩) 0 0) := by
    refine Mine.rolls (w := (w.alloc (.cells #[] 9)).alloc (.cells #[.int .i64 0, .int .i64 1, .int .i64 3, .int .i64 5, .int .i64 8] 3)) ⟨?_, fun s hs => by cases hs⟩ z1 hlt
    exact World.ownsRow.alloc (World.ownsRow_made w #[] 0 (Nat.le_refl _) (Nat.zero_le _) rfl) _
  clear hq hL
  go_wp2
  go_loopw [3, 4] (fun t i wr => ∃ (k : Nat) (xs : List Str) (mm : Nat), i = .int .i64 k ∧ xs.length + k ≤ 8 ∧ Mine wr w.heap.size xs t ∧ Rolls w.heap.size b w wr ∧ Rd wr b mm ∧ mm + k ≤ m + 9) (fun _ i _ => (intOf i).toNat)
  case atStart => exact ⟨q, [], m + 1, rfl, by simpa using hq8, hM, z0, z2, by omega⟩
  case round =>
    obtain ⟨k, xs, mm, rfl, hk8, hM, hR, hD, hmm⟩ := hrel
    by_cases hk : 0 < k
    · have hk' : (0 : Int) < (k : Int) := by omega
      go_wp2_with fail
      have hsz := hR.size
      refine Calls.mono (spec_l30Line_any b mm wr hD (by omega)) ?_
      rintro e w2 ⟨x, hx, rfl, y1, y2⟩
      have hsz2 := y1.size
      have hM2 := hM.rolls y1 hlt
      go_wp2_with (at_builtin; refine wpList_append_src _ rfl (.tmp 13) (.tmp 16) _ rfl w.heap.size 9 i _ 1 16 Try.underlying35 hi0 hi1 hi2 hi3 rfl (by omega) _ xs.length _ rfl (hM2.1.alloc _) _ 1 1 [(.string ⟨x.toArray⟩)] rfl ?e1 ?e2 ?e3 ?e4 ?e5 ?_)
      case e1 => exact ⟨rfl, fun _ => ⟨_, 0, rfl, fun j u hu => by
        cases j with
        | zero => simp at hu; subst hu; simp [go_sem]
        | succ j => simp at hu⟩⟩
      case e2 => intro u hu; simp at hu; subst hu; rfl
      case e3 => unfold maxLen; omega
      case e4 => omega
      case e5 => simp; omega
      intro A' c' w3 hown hg hat
      have hrow := fun g hg => (hM2.1.lt g hg).1
      have hR3 : Rolls w.heap.size b w w3 := ((hR.trans (y1.mono hsz)).alloc (by omega) _).grown hg (by simp; omega) hrow
      have hD3 : Rd w3 b (mm + 1) := (y2.alloc _).grown hg (fun g e => Nat.lt_of_lt_of_le hlt (hrow g e))
      go_wp2
      go_roundw
      case rel => exact ⟨k - 1, xs ++ [x], mm + 1, by go_num, by simp; omega, ⟨by simpa using hown, fun s hs => by
          rcases List.mem_append.1 hs with hs | hs
          · exact hM.2 s hs
          · simp at hs; subst hs; exact hx⟩, hR3, hD3, by omega⟩
      case measure => simp [intOf]; omega
    · go_wp2
      go_ret
      exact ⟨xs, _, mm, rfl, hM, by omega, hR, hD, by omega⟩

theorem src_lit (w : World) (t : TypeId) (xs : List Str) : Src (w.alloc (.cells (xs.map fun s => .string ⟨s.toArray⟩).toArray t)) 1 (some ⟨w.heap.size, 0, none⟩) xs.length (xs.map fun s => .string ⟨s.toArray⟩) :=
  ⟨by simp, fun _ => ⟨w.heap.size, 0, rfl, fun j u hu => by
    simp only [World.cell?, heap_new]
    simpa using hu⟩⟩

set_option maxHeartbeats 400000 in
theorem spec_l30AnyText_any (b m : Nat) (w : World) (h : Rd w b m) (hm : m ≤ 800000) :
    Calls Try.prog 42 #[.pointer (some ⟨b, 0, none⟩)] w fun e w' => ∃ (xs : List Str) (v : Value) (m' : Nat), e = .returned v ∧ Mine w' w.heap.size xs v ∧ xs.length ≤ 18 ∧ Rolls w.heap.size b w w' ∧ Rd w' b m' ∧ m' ≤ m + 12 := by
  have hlt := h.lt
  obtain ⟨i, hi0, hi1, hi2, hi3⟩ := info_parts Try.infoStr
  go_enter Try.func42, Try.ntmps42
  go_wp2_with fail
  refine Calls.mono (spec_l30Text_any b m w h (by omega)) ?_
  rintro e w1 ⟨xs, v, m1, rfl, hM, hl, hR, hD, hm1⟩
  have hs1 := hR.size
  go_wp2_with fail
  refine Calls.mono (spec_pick_any b m1 16 w1 hD (by omega)) ?_
  rintro e w2 ⟨q, rfl, q0, q1, z1, z2, -⟩
  have hs2 := z1.size
  have hM2 := hM.rolls z1 hlt
  have hR2 := hR.trans (z1.mono hs1)
  by_cases c0 : q = 0
  · subst c0
    go_wp2_with fail
    have hL := lit_text w2 9 [[97, 32, 108, 105, 110, 101, 32, 116, 111, 111, 32, 108, 111, 110, 103], [120, 10, 121], [255]] (by decide)
    refine Calls.mono (spec_of_any b (m1 + 1) _ _ _ [[97, 32, 108, 105, 110, 101, 32, 116, 111, 111, 32, 108, 111, 110, 103], [120, 10, 121], [255]] _ _ _ (z2.alloc _) (by omega) hL (by omega) (by simp) (by decide)) ?_
    rintro e w3 ⟨x, hx, rfl, y1, y2, -⟩
    have hx20 : x.length ≤ 20 := by
      simp only [List.mem_cons, List.not_mem_nil, or_false] at hx
      rcases hx with rfl | rfl | rfl <;> decide
    have hM3 : Mine w3 w.heap.size xs v := Mine.rolls (w := w2.alloc _) ⟨hM2.1.alloc _, hM2.2⟩ y1 hlt
    have hs3 := y1.size
    simp only [World.size_alloc] at hs3
    clear hx hL
    go_wp2_with (at_builtin; refine wpList_append_src _ rfl (.tmp 10) (.tmp 14) _ rfl w.heap.size 9 i _ 1 16 Try.underlying35 hi0 hi1 hi2 hi3 rfl (by omega) _ xs.length _ rfl (hM3.1.alloc _) _ 1 1 _ rfl (src_lit w3 9 [x]) ?e2 ?e3 ?e4 ?e5 ?_)
    case e2 => intro u hu; simp at hu; subst hu; rfl
    case e3 => unfold maxLen; omega
    case e4 => omega
    case e5 => simp; omega
    intro A' c' w4 hown hg hat
    have hrow := fun g hg => (hM3.1.lt g hg).1
    have hR4 : Rolls w.heap.size b w w4 := (((hR2.alloc (by omega) _).trans (y1.mono (by simp; omega))).alloc (by omega) _).grown hg (by simp; omega) hrow
    have hD4 : Rd w4 b (m1 + 1 + 1) := (y2.alloc _).grown hg (fun g e => Nat.lt_of_lt_of_le hlt (hrow g e))
    go_wp2
    go_ret
    exact ⟨xs ++ [x], _, m1 + 1 + 1, rfl, ⟨by simpa using hown, fun s hs => by
      rcases List.mem_append.1 hs with hs | hs
      · exact hM.2 s hs
      · simp at hs; subst hs; exact hx20⟩, by simp; omega, hR4, hD4, by omega⟩
  · by_cases c1 : q = 1
    · subst c1
      go_wp2_with (at_builtin; refine wpList_append_src _ rfl (.tmp 18) (.tmp 19) _ rfl w.heap.size 9 i _ 1 16 Try.underlying35 hi0 hi1 hi2 hi3 rfl (by omega) _ xs.length _ rfl (hM2.1.alloc _) _ 10 10 _ rfl (src_lit w2 9 [[49], [50], [51], [52], [53], [54], [55], [56], [57], [49, 48]]) ?e2 ?e3 ?e4 ?e5 ?_)
      case e2 => intro u hu; simp at hu; rcases hu with rfl | rfl | rfl | rfl | rfl | rfl | rfl | rfl | rfl | rfl <;> rfl
      case e3 => unfold maxLen; omega
      case e4 => omega
      case e5 => simp; omega
      intro A' c' w4 hown hg hat
      have hrow := fun g hg => (hM2.1.lt g hg).1
      have hR4 : Rolls w.heap.size b w w4 := (hR2.alloc (by omega) _).grown hg (by simp; omega) hrow
      have hD4 : Rd w4 b (m1 + 1) := (z2.alloc _).grown hg (fun g e => Nat.lt_of_lt_of_le hlt (hrow g e))
      go_wp2
      go_ret
      exact ⟨xs ++ [[49], [50], [51], [52], [53], [54], [55], [56], [57], [49, 48]], _, m1 + 1, rfl, ⟨by simpa using hown, fun s hs => by
        rcases List.mem_append.1 hs with hs | hs
        · exact hM.2 s hs
        · simp at hs; rcases hs with rfl | rfl | rfl | rfl | rfl | rfl | rfl | rfl | rfl | rfl <;> decide⟩, by simp; omega, hR4, hD4, by omega⟩
    · go_wp2
      go_ret
      exact ⟨xs, _, m1 + 1, rfl, hM2, by omega, hR2, z2, by omega⟩
end Go.Proofs.Ythjjocimpkjldaa
