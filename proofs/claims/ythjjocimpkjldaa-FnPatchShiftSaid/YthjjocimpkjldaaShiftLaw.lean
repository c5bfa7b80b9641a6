/- In plain words: patches that are apart can be made in either order. -/
import Derived.Test.YthjjocimpkjldaaPatchLaw
import Derived.Test.YthjjocimpkjldaaShift
namespace Go.Proofs.Ythjjocimpkjldaa
open Go.RowKit

/-- The first piece lies at l or behind, each next one strictly behind the one ahead. -/
def wellL : List PHunk → Nat → Prop
  | [], _ => True
  | h :: d, l => 0 ≤ h.at_ ∧ l ≤ h.at_.toNat ∧ wellL d (h.at_.toNat + h.less.length + 1)
theorem wellL_mono {d : List PHunk} {l l' : Nat} (h : wellL d l) (hl : l' ≤ l) : wellL d l' := by
  cases d with
  | nil => trivial
  | cons x d => exact ⟨h.1, Nat.le_trans hl h.2.1, h.2.2⟩
theorem wellL_from : ∀ {d : List PHunk} {l : Nat}, (∀ x ∈ d, hunkOk x = true) → d.Pairwise (fun g h => g.stop < h.at_) → (∀ x ∈ d, l ≤ x.at_.toNat) → wellL d l
  | [], _, _, _, _ => trivial
  | h :: d, l, h1, h2, h3 => by
    have hk := hunkOk_facts (h1 h (by simp))
    refine ⟨hk.1, h3 h (by simp), wellL_from (fun x hx => h1 x (List.mem_cons_of_mem _ hx)) (List.pairwise_cons.1 h2).2 (fun x hx => ?_)⟩
    have := (List.pairwise_cons.1 h2).1 x hx
    unfold PHunk.stop at this
    omega
theorem wellL_ok {d : List PHunk} (h : patchOk d = true) : wellL d 0 := by
  rw [patchOk_iff] at h
  exact wellL_from h.2.1 h.2.2 (fun _ _ => Nat.zero_le _)
theorem wellL_le : ∀ {d : List PHunk} {l : Nat}, wellL d l → ∀ y ∈ d, 0 ≤ y.at_ ∧ l ≤ y.at_.toNat
  | [], _, _, y, hy => by cases hy
  | h :: d, l, hw, y, hy => by
    rcases List.mem_cons.1 hy with rfl | hy
    · exact ⟨hw.1, hw.2.1⟩
    · have := wellL_le hw.2.2 y hy
      have := hw.2.1
      omega
theorem hunks_wellL : ∀ {d : List PHunk} {l : Nat}, wellL d l → (∀ y ∈ d, hunkOk y = true) → hunksOk d = true
  | [], _, _, _ => rfl
  | [h], _, _, hk => by rw [hunksOk]; exact hk h (by simp)
  | h :: g :: t, l, hw, hk => by
    have ih := hunks_wellL (d := g :: t) hw.2.2 (fun y hy => hk y (List.mem_cons_of_mem _ hy))
    rw [hunksOk, ih, hk h (by simp)]
    have h1 := hw.1
    have h2 := hw.2.2.1
    have h3 := hw.2.2.2.1
    have : h.stop < g.at_ := by unfold PHunk.stop; omega
    simp [this]
/-- What is drawn off ahead of the first piece. -/
theorem apT_split {t : List Str} {d : List PHunk} {f f1 : Nat} (hw : wellL d f1) (hf : f ≤ f1) : apT t d f = (t.drop f).take (f1 - f) ++ apT t d f1 := by
  have key : ∀ n, f1 ≤ n → (t.drop f).take (n - f) = (t.drop f).take (f1 - f) ++ (t.drop f1).take (n - f1) := fun n hn => by
    rw [show n - f = (f1 - f) + (n - f1) by omega, List.take_add, List.drop_drop, show f + (f1 - f) = f1 by omega]
  cases d with
  | nil =>
    rw [apT, apT]
    have := List.take_append_drop (f1 - f) (t.drop f)
    rw [List.drop_drop, show f + (f1 - f) = f1 by omega] at this
    exact this.symm
  | cons h d =>
    rw [apT, apT, key _ hw.2.1, List.append_assoc]
def mergeP : List PHunk → List PHunk → List PHunk
  | [], b => b
  | a, [] => a
  | h :: a, y :: b => if h.at_ < y.at_ then h :: mergeP a (y :: b) else y :: mergeP (h :: a) b
termination_by a b => a.length + b.length
theorem mergeP_nil (a : List PHunk) : mergeP a [] = a := by cases a <;> simp [mergeP]
theorem shiftBy_none {a : List PHunk} {y s : Int} (h : ∀ x ∈ a, ¬ x.at_ < y) : shiftBy a y s = s := by
  induction a generalizing s with
  | nil => rfl
  | cons x a ih =>
    have h1 := h x (by simp)
    have := ih (s := s) (fun z hz => h z (List.mem_cons_of_mem _ hz))
    unfold shiftBy at this ⊢
    rw [List.foldl_cons, if_neg h1]
    exact this
theorem shiftBy_cons {x : PHunk} {a : List PHunk} {y s : Int} (h : x.at_ < y) : shiftBy (x :: a) y s = shiftBy a y (s + ((x.more.length : Int) - (x.less.length : Int))) := by
  unfold shiftBy
  rw [List.foldl_cons, if_pos h]
def shiftS (a : List PHunk) (s : Int) (b : List PHunk) : List PHunk := b.map fun y => ⟨shiftBy a y.at_ (y.at_ + s), y.less, y.more⟩
theorem apart_iff {x y : PHunk} : apart x y = true ↔ x.stop < y.at_ ∨ y.stop < x.at_ := by unfold apart; simp
theorem shift_T {t x : List Str} : ∀ (n : Nat) (a b : List PHunk) (f g e : Nat) (s : Int), a.length + b.length ≤ n → fitsT t a → wellL a (f + e) → fitsT t b → wellL b (f + e) → freeAll a b = true → e ≤ 1 → f ≤ t.length → s = (g : Int) - (f : Int) → g ≤ x.length → x.drop g = apT t a f →
    wellL (shiftS a s b) (g + e) ∧ fitsT x (shiftS a s b) ∧ apT x (shiftS a s b) g = apT t (mergeP a b) f
  | n, a, [], f, g, e, s, _, _, _, _, _, _, _, _, _, _, hx => ⟨trivial, trivial, by rw [mergeP_nil]; exact hx⟩
  | 0, a, y :: b, _, _, _, _, hn, _, _, _, _, _, _, _, _, _, _ => by simp at hn
  | n + 1, a, y :: b, f, g, e, s, hn, fa, wa, fb, wb, hfr, he, hft, hs, hg, hx => by
    have hsplit : (∃ h a', a = h :: a' ∧ h.at_ < y.at_) ∨ ((∀ h ∈ a, y.stop < h.at_) ∧ mergeP a (y :: b) = y :: mergeP a b) := by
      cases a with
      | nil => exact .inr ⟨fun h hh => (by cases hh), by rw [mergeP, mergeP]⟩
      | cons h a' =>
        by_cases hlt : h.at_ < y.at_
        · exact .inl ⟨h, a', rfl, hlt⟩
        · refine .inr ⟨fun z hz => ?_, by rw [mergeP, if_neg hlt]⟩
          have hap := apart_iff.1 (freeAll_iff.1 hfr z hz y (by simp))
          have hzh : h.at_ ≤ z.at_ := by
            rcases List.mem_cons.1 hz with rfl | hz'
            · exact Int.le_refl _
            · have := wellL_le wa.2.2 z hz'
              have := wa.1
              omega
          have := stop_ge z
          have := stop_ge y
          omega
    rcases hsplit with ⟨h, a', rfl, hlt⟩ | ⟨hall, hm⟩
    · obtain ⟨f1, f2, f3⟩ := fa
      obtain ⟨w1, w2, w3⟩ := wa
      have hap := apart_iff.1 (freeAll_iff.1 hfr h (by simp) y (by simp))
      have hys := stop_ge y
      have hst : h.stop < y.at_ := by omega
      unfold PHunk.stop at hst
      rw [apT] at hx
      have hPl : ((t.drop f).take (h.at_.toNat - f)).length = h.at_.toNat - f := by
        rw [List.length_take, List.length_drop]; omega
      have hxm : x.drop (g + (h.at_.toNat - f) + h.more.length) = apT t a' (h.at_.toNat + h.less.length) := by
        have hxa : x.drop (g + (h.at_.toNat - f)) = h.more ++ apT t a' (h.at_.toNat + h.less.length) := by
          rw [← List.drop_drop, hx, List.drop_append, hPl, Nat.sub_self, List.drop_zero, List.drop_of_length_le (by omega), List.nil_append]
        rw [← List.drop_drop, hxa, List.drop_left]
      have hxt : (x.drop g).take (g + (h.at_.toNat - f) + h.more.length - g) = (t.drop f).take (h.at_.toNat - f) ++ h.more := by
        rw [hx, ← List.append_assoc, show g + (h.at_.toNat - f) + h.more.length - g = ((t.drop f).take (h.at_.toNat - f) ++ h.more).length by rw [List.length_append, hPl]; omega, List.take_left]
      have hlen : g + (h.at_.toNat - f) + h.more.length ≤ x.length := by
        have a2 := congrArg List.length hx
        rw [List.length_drop, List.length_append, List.length_append, hPl] at a2
        omega
      have hB : shiftS (h :: a') s (y :: b) = shiftS a' (s + ((h.more.length : Int) - (h.less.length : Int))) (y :: b) := by
        unfold shiftS
        refine List.map_congr_left fun z hz => ?_
        have hz' : h.at_ < z.at_ := by
          rcases List.mem_cons.1 hz with rfl | hz'
          · exact hlt
          · have := wellL_le wb.2.2 z hz'
            have := wb.1
            omega
        rw [shiftBy_cons hz', Int.add_assoc]
      have wb' : wellL (y :: b) (h.at_.toNat + h.less.length + 1) := ⟨wb.1, by omega, wb.2.2⟩
      have hfr' : freeAll a' (y :: b) = true := freeAll_iff.2 fun z hz => freeAll_iff.1 hfr z (List.mem_cons_of_mem _ hz)
      obtain ⟨i1, i2, i3⟩ := shift_T n a' (y :: b) (h.at_.toNat + h.less.length) (g + (h.at_.toNat - f) + h.more.length) 1 (s + ((h.more.length : Int) - (h.less.length : Int))) (by simp at hn ⊢; omega) f3 w3 fb wb' hfr' (Nat.le_refl _) f1 (by omega) hlen hxm
      rw [hB]
      refine ⟨wellL_mono i1 (by omega), i2, ?_⟩
      rw [apT_split (wellL_mono i1 (Nat.le_succ _)) (show g ≤ g + (h.at_.toNat - f) + h.more.length by omega), i3, hxt, mergeP, if_pos hlt, apT, List.append_assoc]
    · obtain ⟨f1, f2, f3⟩ := fb
      obtain ⟨w1, w2, w3⟩ := wb
      have wa' : wellL a (y.at_.toNat + y.less.length + 1) := by
        cases a with
        | nil => trivial
        | cons h a' =>
          have := hall h (by simp)
          unfold PHunk.stop at this
          exact ⟨wa.1, by omega, wa.2.2⟩
      have hsy : shiftBy a y.at_ (y.at_ + s) = y.at_ + s := shiftBy_none fun z hz => by
        have := hall z hz
        have := stop_ge y
        omega
      have hat : (y.at_ + s).toNat = g + (y.at_.toNat - f) := by omega
      have e0 := apT_split (t := t) (wellL_mono wa' (show y.at_.toNat ≤ _ by omega)) (show f ≤ y.at_.toNat by omega)
      have e1 := apT_split (t := t) (wellL_mono wa' (show y.at_.toNat + y.less.length ≤ _ by omega)) (show y.at_.toNat ≤ y.at_.toNat + y.less.length by omega)
      rw [Nat.add_sub_cancel_left, f2] at e1
      have hPl : ((t.drop f).take (y.at_.toNat - f)).length = y.at_.toNat - f := by
        rw [List.length_take, List.length_drop]; omega
      have hxa : x.drop (g + (y.at_.toNat - f)) = y.less ++ apT t a (y.at_.toNat + y.less.length) := by
        rw [← List.drop_drop, hx, e0, List.drop_append, hPl, Nat.sub_self, List.drop_zero, List.drop_of_length_le (by omega), List.nil_append, e1]
      have hxm : x.drop (g + (y.at_.toNat - f) + y.less.length) = apT t a (y.at_.toNat + y.less.length) := by
        rw [← List.drop_drop, hxa, List.drop_left]
      have hxt : (x.drop g).take (y.at_.toNat - f) = (t.drop f).take (y.at_.toNat - f) := by
        rw [hx, e0, List.take_append, hPl, Nat.sub_self, List.take_zero, List.append_nil, List.take_of_length_le (by omega)]
      have hlen : g + (y.at_.toNat - f) + y.less.length ≤ x.length := by
        have a1 := congrArg List.length hxa
        have a2 := congrArg List.length hx
        rw [e0] at a2
        simp only [List.length_drop, List.length_append, hPl] at a1 a2
        omega
      have hfr' : freeAll a b = true := freeAll_iff.2 fun z hz u hu => freeAll_iff.1 hfr z hz u (List.mem_cons_of_mem _ hu)
      obtain ⟨i1, i2, i3⟩ := shift_T n a b (y.at_.toNat + y.less.length) (g + (y.at_.toNat - f) + y.less.length) 1 s (by simp at hn ⊢; omega) fa wa' f3 w3 hfr' (Nat.le_refl _) f1 (by omega) hlen hxm
      have hB : shiftS a s (y :: b) = ⟨y.at_ + s, y.less, y.more⟩ :: shiftS a s b := by
        unfold shiftS
        rw [List.map_cons, hsy]
      rw [hB]
      refine ⟨⟨by show 0 ≤ y.at_ + s; omega, by show g + e ≤ (y.at_ + s).toNat; omega, ?_⟩, ⟨by show (y.at_ + s).toNat + y.less.length ≤ x.length; omega, ?_, i2⟩, ?_⟩
      · show wellL _ ((y.at_ + s).toNat + y.less.length + 1)
        rw [hat]; exact i1
      · show (x.drop (y.at_ + s).toNat).take y.less.length = y.less
        rw [hat, hxa, List.take_left]
      · rw [hm, apT, apT]
        show (x.drop g).take ((y.at_ + s).toNat - g) ++ (y.more ++ apT x _ ((y.at_ + s).toNat + y.less.length)) = _
        rw [hat, i3, Nat.add_sub_cancel_left, hxt]
theorem mergeP_symm : ∀ (n : Nat) (a b : List PHunk), a.length + b.length ≤ n → freeAll a b = true → mergeP a b = mergeP b a
  | _, [], b, _, _ => by rw [mergeP_nil, mergeP]
  | _, h :: a, [], _, _ => by rw [mergeP_nil, mergeP]
  | 0, h :: a, y :: b, hn, _ => by simp at hn
  | n + 1, h :: a, y :: b, hn, hf => by
    have hap := apart_iff.1 (freeAll_iff.1 hf h (by simp) y (by simp))
    have h1 := stop_ge h
    have h2 := stop_ge y
    rw [mergeP, mergeP]
    by_cases hlt : h.at_ < y.at_
    · rw [if_pos hlt, if_neg (by omega), mergeP_symm n a (y :: b) (by simp at hn ⊢; omega) (freeAll_iff.2 fun z hz => freeAll_iff.1 hf z (List.mem_cons_of_mem _ hz))]
    · rw [if_neg hlt, if_pos (by omega), mergeP_symm n (h :: a) b (by simp at hn ⊢; omega) (freeAll_iff.2 fun z hz u hu => freeAll_iff.1 hf z hz u (List.mem_cons_of_mem _ hu))]
theorem mergeP_perm : ∀ (n : Nat) (a b : List PHunk), a.length + b.length ≤ n → ∀ z, z ∈ mergeP a b ↔ z ∈ a ∨ z ∈ b
  | _, [], b, _, z => by rw [mergeP]; simp
  | _, h :: a, [], _, z => by rw [mergeP_nil]; simp
  | 0, h :: a, y :: b, hn, _ => by simp at hn
  | n + 1, h :: a, y :: b, hn, z => by
    rw [mergeP]
    split
    · rw [List.mem_cons, mergeP_perm n a (y :: b) (by simp at hn ⊢; omega), List.mem_cons (l := a), or_assoc]
    · rw [List.mem_cons, mergeP_perm n (h :: a) b (by simp at hn ⊢; omega), List.mem_cons (l := b)]
      constructor
      · rintro (h | h | h)
        · exact .inr (.inl h)
        · exact .inl h
        · exact .inr (.inr h)
      · rintro (h | h | h)
        · exact .inr (.inl h)
        · exact .inl h
        · exact .inr (.inr h)
theorem apT_mem {t : List Str} : ∀ (d : List PHunk) (f : Nat) (s : Str), s ∈ apT t d f → s ∈ t ∨ ∃ h ∈ d, s ∈ h.more
  | [], f, s, h => .inl (List.mem_of_mem_drop h)
  | h :: d, f, s, hs => by
    rw [apT, List.mem_append, List.mem_append] at hs
    rcases hs with hs | hs | hs
    · exact .inl (List.mem_of_mem_drop (List.mem_of_mem_take hs))
    · exact .inr ⟨h, by simp, hs⟩
    · rcases apT_mem d _ s hs with hs | ⟨k, hk, hs⟩
      · exact .inl hs
      · exact .inr ⟨k, List.mem_cons_of_mem _ hk, hs⟩
def deltaP (d : List PHunk) : Int := (d.map fun h => (h.more.length : Int) - (h.less.length : Int)).sum
theorem apT_len {t : List Str} : ∀ {d : List PHunk} {f : Nat}, fitsT t d → wellL d f → f ≤ t.length → ((apT t d f).length : Int) = (t.length : Int) - (f : Int) + deltaP d
  | [], f, _, _, h => by simp only [apT, deltaP, List.length_drop, List.map_nil, List.sum_nil]; omega
  | h :: d, f, hf, hw, hl => by
    obtain ⟨f1, f2, f3⟩ := hf
    obtain ⟨w1, w2, w3⟩ := hw
    have ih := apT_len f3 (wellL_mono w3 (Nat.le_succ _)) f1
    simp only [deltaP] at ih
    simp only [apT, deltaP, List.length_append, List.length_take, List.length_drop, List.map_cons, List.sum_cons, Int.natCast_add]
    rw [ih]
    omega
theorem delta_shift (a : List PHunk) (s : Int) (b : List PHunk) : deltaP (shiftS a s b) = deltaP b := by
  unfold deltaP shiftS
  rw [List.map_map]
  rfl
theorem shiftS_zero (a b : List PHunk) : shiftS a 0 b = b.map (shifted a) := by
  unfold shiftS shifted
  simp
/-- Half of the law: the second patch behind the first. -/
theorem shift_half {t x y : List Str} {a b : List PHunk} (hf : patchFree a b = true) (hx : patchDo t a = some x) (hy : patchDo t b = some y) (hl : x.length + y.length ≤ t.length + 10) :
    patchDo x (patchShift a b) = some (apT t (mergeP a b) 0) := by
  have hf0 := hf
  rw [patchDo_iff] at hx hy
  obtain ⟨a1, a2, a3, a4, a5⟩ := hx
  obtain ⟨_, b2, b3, b4, b5⟩ := hy
  unfold patchFree at hf
  simp only [Bool.and_eq_true] at hf
  obtain ⟨i1, i2, i3⟩ := shift_T (t := t) (x := x) _ a b 0 0 0 0 (Nat.le_refl _) a3 (wellL_ok a2) b3 (wellL_ok b2) hf.2.2 (Nat.zero_le _) (Nat.zero_le _) rfl (Nat.zero_le _) (by rw [List.drop_zero]; exact a5)
  have hpl := apT_len i2 (wellL_mono i1 (Nat.zero_le _)) (Nat.zero_le _)
  rw [i3, delta_shift] at hpl
  have hyl := apT_len b3 (wellL_ok b2) (Nat.zero_le _)
  rw [← b5] at hyl
  have hps : patchShift a b = shiftS a 0 b := by rw [shiftS_zero]; unfold patchShift; rw [if_pos hf0]
  have hxl := textOk_len a4
  have hbk := hunkOk_of_patchOk b2
  have hB : ∀ z ∈ shiftS a 0 b, hunkOk z = true := fun z hz => by
    have hw := wellL_le i1 z hz
    have hin : (z.at_.toNat : Nat) ≤ x.length := by
      have : ∀ {d : List PHunk}, fitsT x d → ∀ z ∈ d, z.at_.toNat + z.less.length ≤ x.length := fun {d} => by
        induction d with
        | nil => intro _ z hz; cases hz
        | cons h d ih =>
          intro hf z hz
          rcases List.mem_cons.1 hz with rfl | hz
          · exact hf.1
          · exact ih hf.2.2 z hz
      have := this i2 z hz
      omega
    obtain ⟨u, hu, rfl⟩ := List.mem_map.1 hz
    have hk := hbk u hu
    unfold hunkOk inRange at hk ⊢
    simp only [Bool.and_eq_true, decide_eq_true_eq] at hk ⊢
    refine ⟨⟨hw.1, ?_⟩, hk.2⟩
    have h1 : 0 ≤ shiftBy a u.at_ (u.at_ + 0) := hw.1
    have h2 : (shiftBy a u.at_ (u.at_ + 0)).toNat ≤ x.length := hin
    show shiftBy a u.at_ (u.at_ + 0) ≤ 10
    omega
  have hok : patchOk (shiftS a 0 b) = true := by
    unfold patchOk
    rw [hunks_wellL i1 hB, Bool.and_true, decide_eq_true_eq]
    have := patchOk_len b2
    unfold shiftS
    rw [List.length_map]; exact this
  have hak := hunkOk_of_patchOk a2
  rw [patchDo_iff]
  refine ⟨a4, by rw [hps]; exact hok, by rw [hps]; exact i2, ?_, by rw [hps]; exact i3.symm⟩
  unfold textOk
  rw [Bool.and_eq_true, decide_eq_true_eq, List.all_eq_true]
  refine ⟨by omega, fun s hs => ?_⟩
  have line : ∀ {u : List Str}, textOk u = true → ∀ s ∈ u, lineOk s = true := fun {u} h s hs => by
    unfold textOk at h
    rw [Bool.and_eq_true, List.all_eq_true] at h
    exact h.2 s hs
  rcases apT_mem _ _ s hs with hs | ⟨k, hk, hs⟩
  · exact line a1 s hs
  · rcases (mergeP_perm _ a b (Nat.le_refl _) k).1 hk with hk | hk
    · exact line (hunkOk_facts (hak k hk)).2.2.2.1 s hs
    · exact line (hunkOk_facts (hbk k hk)).2.2.2.1 s hs
/-- Patches that are apart can be made in either order. -/
theorem patch_shift {t x y : List Str} {a b : List PHunk} (hf : patchFree a b = true) (hx : patchDo t a = some x) (hy : patchDo t b = some y) (hl : x.length + y.length ≤ t.length + 10) :
    ∃ p, patchDo x (patchShift a b) = some p ∧ patchDo y (patchShift b a) = some p := by
  have hf2 := hf
  unfold patchFree at hf2
  simp only [Bool.and_eq_true] at hf2
  have hs := shift_half (a := b) (b := a) (by rw [patchFree_symm hf2.1 hf2.2.1]; exact hf) hy hx (by omega)
  refine ⟨_, shift_half hf hx hy hl, ?_⟩
  rw [hs, mergeP_symm _ b a (Nat.le_refl _) (by rw [freeAll_symm]; exact hf2.2.2)]
end Go.Proofs.Ythjjocimpkjldaa
