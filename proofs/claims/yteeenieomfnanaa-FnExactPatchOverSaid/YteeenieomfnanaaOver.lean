/- Walks: PatchOver, the program's and the reference's. -/
import Derived.Test.YteeenieomfnanaaDoFn
import Derived.Test.YteeenieomfnanaaDiff2
import Derived.Test.YteeenieomfnanaaKHunk
namespace Go.Proofs.Yteeenieomfnanaa
open Go.RowKit

theorem cutHunks_cnt' (a b : List Str) : ∀ (ps : List Int) (i fa fb : Nat), cntHunks (cutHunks a b ps i fa fb) ≤ ps.length * (1 + a.length + b.length)
  | [], _, _, _ => by simp [cutHunks, cntHunks]
  | j :: ps, i, fa, fb => by
    rw [cutHunks, List.length_cons, Nat.add_mul]
    split
    · have := cutHunks_cnt' a b ps (i + 1) fa fb
      omega
    · have h := cutHunks_cnt' a b ps (i + 1) (i + 1) (j.toNat + 1)
      unfold cntHunks at *
      rw [List.map_append, List.sum_append]
      split
      · simp only [List.map_cons, List.map_nil, List.sum_cons, List.sum_nil, cntHunk, List.length_take, List.length_drop]
        omega
      · simp only [List.map_nil, List.sum_nil]
        omega
theorem patchDo_some {t r : List Str} {d : List PHunk} (h : patchDo t d = some r) : textOk t = true ∧ textOk r = true := by
  unfold patchDo at h
  split at h
  · rename_i hk
    simp at hk
    exact ⟨hk.1, doFrom_ok h⟩
  · cases h
theorem textOk_small {t : List Str} (h : textOk t = true) : ∀ s ∈ t, s.length ≤ 9223372036854775807 := by
  intro s hs
  simp only [textOk, Bool.and_eq_true, List.all_eq_true] at h
  have := h.2 s hs
  simp only [lineOk, Bool.and_eq_true, decide_eq_true_eq] at this
  omega
def patchOver (t : List Str) (a b : List PHunk) : Option (List PHunk) := (patchDo t a).bind fun x => (patchDo x b).map (diffOf t)
theorem bnd_PatchOver (t : List Str) (a b : List PHunk) : cntHunks ((patchOver t a b).getD []) ≤ 231 := by
  unfold patchOver
  cases h : patchDo t a with
  | none => simp [cntHunks]
  | some x =>
    cases h2 : patchDo x b with
    | none => simp [h2, cntHunks]
    | some y =>
      have h3 := textOk_len (patchDo_some h).1
      have h4 := textOk_len (patchDo_some h2).2
      have h5 := cutHunks_cnt' t y (pairsOf t y) 0 0 0
      rw [pairsOf_len] at h5
      simp only [Option.bind_some, h2, Option.map_some, Option.getD_some]
      unfold diffOf
      have : (t.length + 1) * (1 + t.length + y.length) ≤ 11 * 21 := Nat.mul_le_mul (by omega) (by omega)
      omega

set_option maxHeartbeats 800000 in
theorem impl_PatchOver_any (A1 A2 A3 : Option Addr) (n1 c1 n2 c2 n3 c3 : Nat) (xs : List Str) (ys zs : List PHunk) (w : World) (lo hi lo' hi' lo'' hi'' : Nat) (h1 : Rep w lo hi (encText xs) (.slice A1 n1 c1)) (h2 : Rep w lo' hi' (encHunks ys) (.slice A2 n2 c2)) (h3 : Rep w lo'' hi'' (encHunks zs) (.slice A3 n3 c3))
    (hh1 : hi ≤ w.heap.size) (hh2 : hi' ≤ w.heap.size) (hh3 : hi'' ≤ w.heap.size) :
    Calls Try.prog 9 #[.slice A1 n1 c1, .slice A2 n2 c2, .slice A3 n3 c3] w fun e w' => ∃ A n c, e = .returned (.tuple #[.slice A n c, .bool (patchOver xs ys zs).isSome]) ∧ Below w.heap.size w w' ∧ Fresh w' w.heap.size w'.heap.size (encHunks ((patchOver xs ys zs).getD [])) (.slice A n c) := by
  go_enter Try.func9, Try.ntmps9
  go_wp2_with fail
  refine Calls.mono (impl_PatchDo_any _ _ _ _ _ _ xs ys w lo hi lo' hi' h1 h2 hh1 hh2) ?_
  rintro e w1 ⟨B1, m1, e1, rfl, hb1, hf1⟩
  have hs1 := hb1.size
  cases t1 : patchDo xs ys with
  | none =>
    go_wp2
    go_ret2
    have hn : patchOver xs ys zs = none := by rw [patchOver, t1]; rfl
    rw [hn]
    exact ⟨_, _, _, rfl, hb1, Fresh.nil _ _ _ _ _⟩
  | some x =>
    rw [t1] at hf1
    go_wp2_with fail
    refine Calls.mono (impl_PatchDo_any _ _ _ _ _ _ x zs w1 _ _ lo'' hi'' hf1.rep (h3.keep hb1 hh3) (Nat.le_refl _) (Nat.le_trans hh3 hs1)) ?_
    rintro e w2 ⟨B2, m2, e2, rfl, hb2, hf2⟩
    have hs2 := hb2.size
    have hbx := hb1.trans (hb2.mono hs1)
    cases t2 : patchDo x zs with
    | none =>
      go_wp2
      go_ret2
      have hn : patchOver xs ys zs = none := by rw [patchOver, t1, Option.bind_some, t2]; rfl
      rw [hn]
      exact ⟨_, _, _, rfl, hbx, Fresh.nil _ _ _ _ _⟩
    | some y =>
      rw [t2] at hf2
      have hl1 := textOk_len (patchDo_some t1).1
      have hl2 := textOk_len (patchDo_some t2).2
      go_wp2_with fail
      refine Calls.mono (impl_diff_any _ _ _ _ _ _ xs y w2 lo hi _ _ (h1.keep hbx hh1) hf2.rep (Nat.le_trans hh1 hbx.size) (Nat.le_refl _) (by omega) (by simp only [Option.getD_some] at *; omega)) ?_
      rintro e w3 ⟨B3, m3, e3, rfl, hb3, hf3⟩
      go_wp2
      go_ret2
      have hn : patchOver xs ys zs = some (diffOf xs y) := by rw [patchOver, t1, Option.bind_some, t2]; rfl
      rw [hn]
      exact ⟨_, _, _, rfl, hbx.trans (hb3.mono hbx.size), hf3.mono hbx.size (Nat.le_refl _)⟩

set_option maxHeartbeats 800000 in
theorem spec_PatchOver_any (A1 A2 A3 : Option Addr) (n1 c1 n2 c2 n3 c3 : Nat) (xs : List Str) (ys zs : List PHunk) (w : World) (lo hi lo' hi' lo'' hi'' : Nat) (h1 : Rep w lo hi (encText xs) (.slice A1 n1 c1)) (h2 : Rep w lo' hi' (encHunks ys) (.slice A2 n2 c2)) (h3 : Rep w lo'' hi'' (encHunks zs) (.slice A3 n3 c3))
    (hh1 : hi ≤ w.heap.size) (hh2 : hi' ≤ w.heap.size) (hh3 : hi'' ≤ w.heap.size) (hs1 : ∀ s ∈ xs, s.length ≤ 9223372036854775807) (hs2 : ∀ x ∈ ys, okHunk x) (hs3 : ∀ x ∈ zs, okHunk x) :
    Calls Try.prog 6 #[.slice A1 n1 c1, .slice A2 n2 c2, .slice A3 n3 c3] w fun e w' => ∃ A n c, e = .returned (.tuple #[.slice A n c, .bool (patchOver xs ys zs).isSome]) ∧ Below w.heap.size w w' ∧ Fresh w' w.heap.size w'.heap.size (encHunks ((patchOver xs ys zs).getD [])) (.slice A n c) := by
  go_enter Try.func6, Try.ntmps6
  go_wp2_with fail
  refine Calls.mono (spec_PatchDo_any _ _ _ _ _ _ xs ys w lo hi lo' hi' h1 h2 hh1 hh2 hs1 hs2) ?_
  rintro e w1 ⟨B1, m1, e1, rfl, hb1, hf1⟩
  have hz1 := hb1.size
  have hsm : ∀ s ∈ (patchDo xs ys).getD [], s.length ≤ 9223372036854775807 := by
    cases t1 : patchDo xs ys with
    | none => intro s hs; cases hs
    | some x => exact textOk_small (patchDo_some t1).2
  go_wp2_with fail
  refine Calls.mono (spec_PatchDo_any _ _ _ _ _ _ ((patchDo xs ys).getD []) zs w1 _ _ lo'' hi'' hf1.rep (h3.keep hb1 hh3) (Nat.le_refl _) (Nat.le_trans hh3 hz1) hsm hs3) ?_
  rintro e w2 ⟨B2, m2, e2, rfl, hb2, hf2⟩
  have hz2 := hb2.size
  have hbx := hb1.trans (hb2.mono hz1)
  cases t1 : patchDo xs ys with
  | none =>
    go_wp2
    go_ret2
    have hn : patchOver xs ys zs = none := by rw [patchOver, t1]; rfl
    rw [hn]
    exact ⟨_, _, _, rfl, hbx, Fresh.nil _ _ _ _ _⟩
  | some x =>
    simp only [t1, Option.getD_some] at hf2 ⊢
    cases t2 : patchDo x zs with
    | none =>
      go_wp2
      go_ret2
      have hn : patchOver xs ys zs = none := by rw [patchOver, t1, Option.bind_some, t2]; rfl
      rw [hn]
      exact ⟨_, _, _, rfl, hbx, Fresh.nil _ _ _ _ _⟩
    | some y =>
      rw [t2] at hf2
      have hl1 := textOk_len (patchDo_some t1).1
      have hl2 := textOk_len (patchDo_some t2).2
      go_wp2_with fail
      refine Calls.mono (spec_l1Of_any _ _ _ _ _ _ xs y w2 lo hi _ _ (h1.keep hbx hh1) hf2.rep (Nat.le_trans hh1 hbx.size) (Nat.le_refl _) (by omega) (by simp only [Option.getD_some] at *; omega)) ?_
      rintro e w3 ⟨B3, m3, e3, rfl, hb3, hf3⟩
      go_wp2
      go_ret2
      have hn : patchOver xs ys zs = some (diffOf xs y) := by rw [patchOver, t1, Option.bind_some, t2]; rfl
      rw [hn]
      exact ⟨_, _, _, rfl, hbx.trans (hb3.mono hbx.size), hf3.mono hbx.size (Nat.le_refl _)⟩
end Go.Proofs.Yteeenieomfnanaa
