/- Walks: the program's linesOf; the reference's l1Num. -/
import Derived.Test.YteofafgleojmhaaDoorNum
import Derived.Test.YteofafgleojmhaaDoorRepL
namespace Go.Proofs.YteofafgleojmhaaDoor
open Go.RowKit

/-- 't[:i]' of a slice of strings. -/
theorem Tryd.headStrs (A : Option Addr) (n c i : Nat) (hij : i ≤ c) :
    (∀ W, (Instr.sliceAt 28 (.slice A n c) none (some (.int .i64 i)) none).run Tryd.prog W = .ok (.slice A i c) W) ∧
    (∀ W, (Instr.slice 28 (.slice A n c) none (some (.int .i64 i)) none).run Tryd.prog W = .ok (.slice A i c) W) := by
  have ht : Tryd.prog.underlying 28 = some (.slice (Tryd.prog.elem 28)) := by kernel_rfl
  obtain ⟨ii, hi0, hi1, hi2, hi3⟩ := info_parts Tryd.infoStr
  have he : Tryd.prog.elem 28 = 9 := by kernel_rfl
  have hsz : ∀ W, (sizeOf 9).run Tryd.prog W = .ok ii.size W := fun W => by simp [sizeOf, typeInfo, hi0]
  have e0 : (A.map fun a => a.add 0) = A := by cases A <;> simp [Addr.add]
  have h : ∀ W, (Instr.slice 28 (.slice A n c) none (some (.int .i64 i)) none).run Tryd.prog W = .ok (.slice A i c) W := by
    intro W
    rw [run_slice_h (h0 := by omega) (h2 := by omega) (ht := ht), he, hsz, hi2]
    simp [Result.andThen, sliced, e0]
  exact ⟨fun W => by rw [run_sliceAt_slice (h := ht)]; exact h W, h⟩
theorem text_take : ∀ (xs : List Str) (k : Nat), (xs.take k).flatMap cText = (xs.flatMap cText).take k
  | [], k => by simp
  | x :: xs, 0 => by simp
  | x :: xs, k + 1 => by
    rw [List.take_succ_cons, List.flatMap_cons, List.flatMap_cons, text_take xs k]
    rfl
/-- A row's first elements. -/
theorem Text.head {w : World} {lo hi n c k : Nat} {A : Option Addr} {xs : List Str} (h : Rep w lo hi (encText xs) (.slice A n c)) (hk : k ≤ n) : Rep w lo hi (encText (xs.take k)) (.slice A k c) := by
  have hn := Text.n h
  have hl : (xs.flatMap cText).length = xs.length := by rw [length_flatMap_z cText_len]; omega
  cases h with
  | sl us len cap max nil cell sub =>
    refine .sl us ?_ (Nat.le_trans hk cap) max nil (fun h0 => ?_) (fun j p hj => ?_)
    · rw [text_take, List.length_take, hl]; omega
    · obtain ⟨b, o, e, h1, h2, hc⟩ := cell (by omega)
      exact ⟨b, o, e, h1, h2, fun j hj => hc j (by rw [text_take, List.length_take] at hj; omega)⟩
    · refine sub j p ?_
      rw [text_take, List.getElem?_take] at hj
      split at hj
      · exact hj
      · cases hj

set_option maxRecDepth 100000 in
set_option maxHeartbeats 1000000 in
theorem impl_linesOf_any (s : Str) (w : World) (hs : s.length ≤ 1073741824) :
    Calls Tryd.prog 13 #[.string ⟨s.toArray⟩] w fun e w' => ∃ A n c, e = .returned (.tuple #[.slice A n c, .bool (linesI s).isSome]) ∧ (∀ ls, linesI s = some ls → Rep w' w.heap.size w'.heap.size (encText ls) (.slice A n c)) ∧ Below w.heap.size w w' := by
  by_cases he : s = []
  · subst he
    go_enter Tryd.func13, Tryd.ntmps13
    go_wp2
    go_ret2
    exact ⟨none, 0, 0, rfl, fun ls hl => by
      have : ls = [] := by unfold linesI at hl; simpa using hl.symm
      subst this
      exact (Fresh.nil _ _ _ _ _).rep, Below.refl _ _⟩
  · have hsb : (s == []) = false := by simpa using he
    have hsl : 0 < s.length := List.length_pos_iff.2 he
    have hcut := strings_Split_any s 10 w hs
    obtain ⟨m, hm⟩ : ∃ m, m = s.count 10 := ⟨_, rfl⟩
    have hml : m ≤ s.length := by rw [hm]; exact List.count_le_length
    have hcl := cutN_len 10 (s.count 10) s (Nat.le_refl _)
    obtain ⟨L, hL⟩ : ∃ L, L = cutN 10 (s.count 10) s := ⟨_, rfl⟩
    have hli : linesI s = if L.getLast? = some [] then some L.dropLast else none := by unfold linesI; rw [if_neg he, hL]
    rw [← hL, ← hm] at hcut hcl
    have Hli := Lib.hid hli
    have Hcl := Lib.hid hcl
    have Hne := Lib.hid he
    clear hli hcl hL hm he
    go_enter Tryd.func13, Tryd.ntmps13
    go_wp2_with fail
    refine Calls.mono hcut ?_
    rintro e w1 ⟨rfl, hb1, hR⟩
    clear hcut
    obtain ⟨q1, q2⟩ := Tryd.headStrs (some ⟨w.heap.size, 0, none⟩) (m + 1) (m + 1) m (by omega)
    obtain ⟨b, o, x, hA, _, _, hx, hc⟩ := Text.at hR (k := m) (by omega)
    simp only [Option.some.injEq, Addr.mk.injEq, and_true] at hA
    obtain ⟨rfl, rfl⟩ := hA
    rw [Nat.zero_add] at hc
    have hlast : L.getLast? = some x := by rw [List.getLast?_eq_getElem?, Hcl.out]; exact hx
    have Hlast := Lib.hid hlast
    have hRd := Text.head hR (k := m) (by omega)
    have Hdrop := Lib.hid (show L.dropLast = L.take m by rw [List.dropLast_eq_take, Hcl.out]; rfl)
    clear hx hlast
    go_wp2
    by_cases hx0 : x = []
    · have hxb : (x == []) = true := by simpa using hx0
      have Hx0 := Lib.hid hx0
      have HR := Lib.hid hRd
      clear hx0 hRd hR
      go_quiet (fail)
      go_wp2
      go_ret2
      have hls : linesI s = some (L.take m) := by rw [Hli.out, Hlast.out, if_pos (by rw [Hx0.out]), Hdrop.out]
      refine ⟨_, _, _, by rw [hls]; rfl, fun ls hl => ?_, below_drewN hb1 _⟩
      rw [hls] at hl
      cases hl
      exact HR.out.drewN _
    · have hxb : (x == []) = false := by simpa using hx0
      have Hx0 := Lib.hid hx0
      clear hx0 hRd hR
      go_quiet (fail)
      go_wp2
      go_ret2
      have hls : linesI s = none := by rw [Hli.out, Hlast.out, if_neg (fun e => Hx0.out (Option.some.inj e))]
      exact ⟨_, _, _, by rw [hls]; rfl, fun ls hl => (by rw [hls] at hl; cases hl), below_drewN hb1 _⟩
end Go.Proofs.YteofafgleojmhaaDoor
