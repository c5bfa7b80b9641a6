/- In plain words: what a patch does to a text, and that it is taken back. -/
import Derived.Test.YthjjocimpkjldaaFreeLaw
import Derived.Test.YthjjocimpkjldaaBackLaw
namespace Go.Proofs.Ythjjocimpkjldaa
open Go.RowKit

/-- The text from f on, the patch done. -/
def apT (t : List Str) : List PHunk → Nat → List Str
  | [], f => t.drop f
  | h :: d, f => (t.drop f).take (h.at_.toNat - f) ++ (h.more ++ apT t d (h.at_.toNat + h.less.length))
/-- Every piece finds what it takes away. -/
def fitsT (t : List Str) : List PHunk → Prop
  | [] => True
  | h :: d => h.at_.toNat + h.less.length ≤ t.length ∧ (t.drop h.at_.toNat).take h.less.length = h.less ∧ fitsT t d
/-- Every piece lies behind the one ahead. -/
def wellT : List PHunk → Nat → Prop
  | [], _ => True
  | h :: d, f => 0 ≤ h.at_ ∧ f ≤ h.at_.toNat ∧ wellT d (h.at_.toNat + h.less.length)
theorem well_from : ∀ {d : List PHunk} {f : Nat}, (∀ x ∈ d, hunkOk x = true) → d.Pairwise (fun g h => g.stop < h.at_) → (∀ x ∈ d, f ≤ x.at_.toNat) → wellT d f
  | [], _, _, _, _ => trivial
  | h :: d, f, h1, h2, h3 => by
    have hk := hunkOk_facts (h1 h (by simp))
    refine ⟨hk.1, h3 h (by simp), well_from (fun x hx => h1 x (List.mem_cons_of_mem _ hx)) (List.pairwise_cons.1 h2).2 (fun x hx => ?_)⟩
    have := (List.pairwise_cons.1 h2).1 x hx
    unfold PHunk.stop at this
    omega
theorem well_of_ok {d : List PHunk} (h : patchOk d = true) : wellT d 0 := by
  rw [patchOk_iff] at h
  exact well_from h.2.1 h.2.2 (fun _ _ => Nat.zero_le _)
theorem doFrom_iff {t : List Str} : ∀ {d : List PHunk} {f : Nat} {out r : List Str}, doFrom t d f out = some r ↔ fitsT t d ∧ textOk (out ++ apT t d f) = true ∧ r = out ++ apT t d f
  | [], f, out, r => by
    rw [doFrom, fitsT, apT]
    split
    · rename_i h; simp [h, eq_comm]
    · rename_i h; simp [h]
  | x :: d, f, out, r => by
    rw [doFrom, fitsT, apT]
    split
    · rename_i h
      simp only [reduceCtorEq, false_iff]
      rintro ⟨⟨h1, _⟩, _⟩; omega
    · rename_i h
      split
      · rename_i h2
        rw [doFrom_iff]
        simp only [List.append_assoc, h2, true_and]
        constructor
        · rintro ⟨a, b⟩; exact ⟨⟨by omega, a⟩, b⟩
        · rintro ⟨⟨_, a⟩, b⟩; exact ⟨a, b⟩
      · rename_i h2
        simp only [h2, false_and, and_false, reduceCtorEq]
theorem patchDo_iff {t x : List Str} {d : List PHunk} : patchDo t d = some x ↔ textOk t = true ∧ patchOk d = true ∧ fitsT t d ∧ textOk x = true ∧ x = apT t d 0 := by
  unfold patchDo
  split
  · rename_i h
    simp only [Bool.and_eq_true] at h
    rw [doFrom_iff]
    simp only [List.nil_append, h.1, h.2, true_and]
    constructor
    · rintro ⟨a, b, rfl⟩; exact ⟨a, b, rfl⟩
    · rintro ⟨a, b, rfl⟩; exact ⟨a, b, rfl⟩
  · rename_i h
    simp only [Bool.and_eq_true] at h
    simp only [reduceCtorEq, false_iff]
    rintro ⟨a, b, _⟩
    exact h ⟨a, b⟩
theorem undo_T {t x : List Str} : ∀ (d : List PHunk) (f g : Nat) (s : Int), fitsT t d → wellT d f → f ≤ t.length → s = (g : Int) - (f : Int) → g ≤ x.length → x.drop g = apT t d f →
    wellT (backFrom d s) g ∧ fitsT x (backFrom d s) ∧ apT x (backFrom d s) g = t.drop f
  | [], f, g, s, _, _, _, _, _, hx => ⟨trivial, trivial, hx⟩
  | h :: d, f, g, s, hf, hw, hft, hs, hg, hx => by
    obtain ⟨h1, h2, h3⟩ := hf
    obtain ⟨w1, w2, w3⟩ := hw
    rw [apT] at hx
    have hat : (h.at_ + s).toNat = g + (h.at_.toNat - f) := by omega
    have hPl : ((t.drop f).take (h.at_.toNat - f)).length = h.at_.toNat - f := by
      rw [List.length_take, List.length_drop]; omega
    have hxa : x.drop (g + (h.at_.toNat - f)) = h.more ++ apT t d (h.at_.toNat + h.less.length) := by
      rw [← List.drop_drop, hx, List.drop_append, hPl, Nat.sub_self, List.drop_zero, List.drop_of_length_le (by omega), List.nil_append]
    have hxm : x.drop (g + (h.at_.toNat - f) + h.more.length) = apT t d (h.at_.toNat + h.less.length) := by
      rw [← List.drop_drop, hxa, List.drop_left]
    have hlen : g + (h.at_.toNat - f) + h.more.length ≤ x.length := by
      have a1 := congrArg List.length hxa
      rw [List.length_drop, List.length_append] at a1
      have a2 := congrArg List.length hx
      rw [List.length_drop, List.length_append, List.length_append, hPl] at a2
      omega
    obtain ⟨b1, b2, b3⟩ := undo_T d (h.at_.toNat + h.less.length) (g + (h.at_.toNat - f) + h.more.length) (s + ((h.more.length : Int) - (h.less.length : Int))) h3 w3 h1 (by omega) hlen hxm
    have htf : t.drop f = (t.drop f).take (h.at_.toNat - f) ++ (h.less ++ t.drop (h.at_.toNat + h.less.length)) := by
      have e1 := List.take_append_drop (h.at_.toNat - f) (t.drop f)
      have e2 := List.take_append_drop h.less.length (t.drop h.at_.toNat)
      rw [h2, List.drop_drop] at e2
      rw [List.drop_drop, show f + (h.at_.toNat - f) = h.at_.toNat by omega, ← e2] at e1
      exact e1.symm
    refine ⟨?_, ?_, ?_⟩
    · rw [backFrom]
      refine ⟨by show 0 ≤ h.at_ + s; omega, by show g ≤ (h.at_ + s).toNat; omega, ?_⟩
      show wellT _ ((h.at_ + s).toNat + h.more.length)
      rw [hat]; exact b1
    · rw [backFrom]
      refine ⟨by show (h.at_ + s).toNat + h.more.length ≤ x.length; omega, ?_, b2⟩
      show (x.drop (h.at_ + s).toNat).take h.more.length = h.more
      rw [hat, hxa, List.take_left]
    · rw [backFrom, apT]
      show (x.drop g).take ((h.at_ + s).toNat - g) ++ (h.less ++ apT x _ ((h.at_ + s).toNat + h.more.length)) = t.drop f
      rw [hat, b3, hx, Nat.add_sub_cancel_left, List.take_append, hPl, Nat.sub_self, List.take_zero, List.append_nil, List.take_of_length_le (by omega), ← htf]
theorem within_T {t : List Str} : ∀ {d : List PHunk} {f : Nat}, fitsT t d → wellT d f → ∀ y ∈ d, 0 ≤ y.at_ ∧ y.at_ ≤ (t.length : Int)
  | [], _, _, _, y, hy => by cases hy
  | h :: d, f, hf, hw, y, hy => by
    rcases List.mem_cons.1 hy with rfl | hy
    · have := hf.1; have := hw.1; omega
    · exact within_T hf.2.2 hw.2.2 y hy
theorem back_hunks : ∀ (d : List PHunk) (s : Int), hunksOk d = true → (∀ y ∈ backFrom d s, 0 ≤ y.at_ ∧ y.at_ ≤ 10) → hunksOk (backFrom d s) = true
  | [], _, _, _ => rfl
  | [h], s, hk, hy => by
    have h1 := hunkOk_facts (by simpa [hunksOk] using hk : hunkOk h = true)
    have h2 := hy ⟨h.at_ + s, h.more, h.less⟩ (by simp [backFrom])
    simp only [backFrom, hunksOk, hunkOk, inRange, Bool.and_eq_true, decide_eq_true_eq, Bool.not_eq_true', decide_eq_false_iff_not]
    exact ⟨⟨h2.1, h2.2⟩, h1.2.2.2.1, h1.2.2.1, by omega⟩
  | h :: g :: t, s, hk, hy => by
    simp only [hunksOk, Bool.and_eq_true, decide_eq_true_eq] at hk
    have h1 := hunkOk_facts hk.1
    have h2 := hy ⟨h.at_ + s, h.more, h.less⟩ (by simp [backFrom])
    have ih := back_hunks (g :: t) (s + ((h.more.length : Int) - (h.less.length : Int))) hk.2.2 (fun y hm => hy y (by rw [backFrom]; exact List.mem_cons_of_mem _ hm))
    rw [backFrom] at ih
    have hgt := hk.2.1
    unfold PHunk.stop at hgt
    simp only [backFrom, hunksOk, Bool.and_eq_true, decide_eq_true_eq]
    refine ⟨?_, ?_, ih⟩
    · simp only [hunkOk, inRange, Bool.and_eq_true, decide_eq_true_eq, Bool.not_eq_true', decide_eq_false_iff_not]
      exact ⟨⟨h2.1, h2.2⟩, h1.2.2.2.1, h1.2.2.1, by omega⟩
    · show h.at_ + s + (h.more.length : Int) < g.at_ + _
      omega
theorem back_back : ∀ (d : List PHunk) (s : Int), backFrom (backFrom d s) (-s) = d
  | [], _ => rfl
  | h :: d, s => by
    have ih := back_back d (s + ((h.more.length : Int) - (h.less.length : Int)))
    rw [backFrom, backFrom]
    congr 1
    · cases h; simp; omega
    · rw [← ih]
      show backFrom _ (-s + ((h.less.length : Int) - (h.more.length : Int))) = _
      rw [ih]
      rw [show -s + ((h.less.length : Int) - (h.more.length : Int)) = -(s + ((h.more.length : Int) - (h.less.length : Int))) by omega, ih]
/-- What is taken back is as it was. -/
theorem patch_back {t x : List Str} {d : List PHunk} (h : patchDo t d = some x) : patchDo x (patchBack d) = some t ∧ patchBack (patchBack d) = d := by
  rw [patchDo_iff] at h
  obtain ⟨h1, h2, h3, h4, h5⟩ := h
  have hw := well_of_ok h2
  obtain ⟨b1, b2, b3⟩ := undo_T (x := x) d 0 0 0 h3 hw (Nat.zero_le _) (by omega) (Nat.zero_le _) (by rw [List.drop_zero]; exact h5)
  have hpb : patchBack d = backFrom d 0 := by unfold patchBack; rw [if_pos h2]
  have hxl := textOk_len h4
  have hok : patchOk (backFrom d 0) = true := by
    have h8 := patchOk_len h2
    have h9 := h2
    unfold patchOk at h9 ⊢
    rw [Bool.and_eq_true, decide_eq_true_eq] at h9 ⊢
    refine ⟨by rw [backFrom_len]; exact h8, back_hunks d 0 h9.2 (fun y hy => ?_)⟩
    have := within_T b2 b1 y hy
    omega
  rw [hpb]
  refine ⟨patchDo_iff.2 ⟨h4, hok, b2, h1, by rw [b3, List.drop_zero]⟩, ?_⟩
  unfold patchBack
  rw [if_pos hok]
  have := back_back d 0
  rwa [Int.neg_zero] at this
end Go.Proofs.Ythjjocimpkjldaa
