/- Walks: MergeSide: the reference's. -/
import Derived.Test.YtbnhebmfgjdocaaSpecText
import Derived.Test.YtbnhebmfgjdocaaMergedSide
namespace Go.Proofs.Ytbnhebmfgjdocaa
open Go.RowKit

theorem mergeSide_bad {xs ys zs : List Str} {m : Int} (h : mergeOk xs ys zs = false) : mergeSide xs ys zs m = none := by unfold mergeSide; rw [mergedOf_no h]; simp
def sideLines (s : Nat) (p : PPart) : List Str := if p.clash then sideOf s p else p.lines
theorem join_side (s : Nat) : ∀ ps : List PPart, joinParts (sideRes s) ps = some (ps.flatMap (sideLines s))
  | [] => rfl
  | p :: ps => by
    have h : (if p.clash then sideRes s p else some p.lines) = some (sideLines s p) := by unfold sideLines sideRes; split <;> rfl
    rw [joinParts, h]
    simp only [join_side s ps, Option.map_some, List.flatMap_cons]
theorem side_next {s : Nat} {ps : List PPart} {k : Nat} {p : PPart} (h : ps[k]? = some p) : (ps.take (k + 1)).flatMap (sideLines s) = (ps.take k).flatMap (sideLines s) ++ sideLines s p := by
  rw [List.take_add_one, h, List.flatMap_append]
  simp
theorem sideLines_len {s : Nat} {p : PPart} (h : p.lines.length ≤ 352 ∧ p.old.length ≤ 16 ∧ p.one.length ≤ 16 ∧ p.two.length ≤ 16) : (sideLines s p).length ≤ 352 := by
  unfold sideLines sideOf
  split
  · split
    · omega
    split
    · omega
    · omega
  · omega

set_option maxRecDepth 100000 in
set_option maxHeartbeats 1600000 in
theorem spec_l3Side_any (s : Nat) (hs2 : s ≤ 2) (A : Option Addr) (n c : Nat) (ps : List PPart) (w : World) (lo hi : Nat) (hR : Rep w lo hi (encParts ps) (.slice A n c)) (hh : hi ≤ w.heap.size) (hfew : fewParts 11 ps) :
    Calls Try.prog 47 #[.slice A n c, .int .i64 s] w fun e w' => ∃ A n c, e = .returned (.slice A n c) ∧ Below w.heap.size w w' ∧ Fresh w' w.heap.size w'.heap.size (encText (ps.flatMap (sideLines s))) (.slice A n c) := by
  obtain ⟨is, si0, si1, si2, si3⟩ := info_parts Try.infoStr
  have hnp := Parts.n hR
  obtain ⟨hc, hm⟩ := Parts.cap hR
  subst hnp
  go_enter Try.func47, Try.ntmps47
  go_wp2
  go_loopw [5, 6, 21, 35, 45] (fun t i _ _ _ wr => ∃ (k : Nat) (A' : Option Addr) (n' c' : Nat) (done : List Str), k ≤ ps.length ∧ i = .int .i64 k ∧ t = .slice A' n' c' ∧ n' = done.length ∧ done.length ≤ 352 * k ∧ Hid (done = (ps.take k).flatMap (sideLines s)) ∧
      wr.ownsRow w.heap.size 9 1 (.slice A' n' c') n' (done.map fun s => .string ⟨s.toArray⟩) ∧ Below w.heap.size w wr) (fun _ i _ _ _ _ => ps.length - (intOf i).toNat)
  case atStart => exact ⟨0, _, 0, 0, [], Nat.zero_le _, rfl, rfl, rfl, by simp, Lib.hid (by simp), World.ownsRow_made w #[] 0 (Nat.le_refl _) (Nat.zero_le _) rfl, (Below.refl _ _).alloc (Nat.le_refl _) _⟩
  case round =>
    obtain ⟨k, A', n', c', done, hk, rfl, rfl, hn', hdl, ht, hown, hb⟩ := hrel
    have hsb := hb.size
    by_cases hkn : k < ps.length
    · have hkn' : (k : Int) < (ps.length : Int) := by omega
      obtain ⟨b1, o1, p, rfl, _, _, hp, B1, m1, e1, B2, m2, e2, B3, m3, e3, B4, m4, e4, d0, d1, r1, d2, r2, d3, r3, d4, r4⟩ := Parts.at (hR.keep hb hh) hkn
      have hpf := hfew.2 p (List.mem_of_getElem? hp)
      have hsl := sideLines_len (s := s) (p := p) (by omega)
      have hle2 : 352 * k ≤ 352 * 22 := Nat.mul_le_mul (Nat.le_refl _) (by have := hfew.1; omega)
      have hnx := side_next (s := s) hp
      rw [← ht.out] at hnx
      have hl1 := Text.n r1
      have hl2 := Text.n r2
      have hl3 := Text.n r3
      have hl4 := Text.n r4
      subst hl1 hl2 hl3 hl4 hn'
      clear hp ht
      cases hcl : p.clash
      · rw [hcl] at d0
        have e : sideLines s p = p.lines := by unfold sideLines; rw [hcl]; rfl
        rw [e] at hnx hsl
        have Hnx := Lib.hid hnx
        clear hnx hcl e
        go_wp2_with (at_builtin; refine wpList_append_src _ rfl (.tmp 28) (.tmp 33) _ rfl w.heap.size 9 is _ 1 16 Try.underlying22 si0 si1 si2 si3 rfl (by omega) _ done.length _ rfl hown _ p.lines.length e1 _ rfl (Text.src r1) ?e2 ?e3 ?e4 ?e5 ?_)
        case e2 => exact texts_one _
        case e3 => unfold maxLen; omega
        case e4 => omega
        case e5 => omega
        intro A7 c7 w7 hown7 hg7 hat7
        have hb7 : Below w.heap.size w w7 := hb.grown hg7 (by omega) (fun g hg => (hown.lt g hg).1)
        clear hat7 hg7
        go_wp2
        go_roundw
        case rel => exact ⟨k + 1, A7, _, c7, done ++ p.lines, by omega, by go_num, rfl, by simp, by simp; omega, Lib.hid Hnx.out.symm, by simpa using hown7, hb7⟩
        case measure => simp [intOf]; omega
      · rw [hcl] at d0
        rcases (show s = 0 ∨ s = 1 ∨ s = 2 by omega) with hs | hs | hs
        · have e : sideLines s p = p.old := by unfold sideLines sideOf; rw [hcl, hs]; rfl
          have k0 : ((s : Int) == 0) = true := by simp; omega
          have k1 : ((s : Int) == 1) = false := by simp; omega
          clear hs
          rw [e] at hnx hsl
          have Hnx := Lib.hid hnx
          clear hnx hcl e
          go_wp2_with (at_builtin; refine wpList_append_src _ rfl (.tmp 38) (.tmp 43) _ rfl w.heap.size 9 is _ 1 16 Try.underlying22 si0 si1 si2 si3 rfl (by omega) _ done.length _ rfl hown _ p.old.length e2 _ rfl (Text.src r2) ?e2 ?e3 ?e4 ?e5 ?_)
          case e2 => exact texts_one _
          case e3 => unfold maxLen; omega
          case e4 => omega
          case e5 => omega
          intro A7 c7 w7 hown7 hg7 hat7
          have hb7 : Below w.heap.size w w7 := hb.grown hg7 (by omega) (fun g hg => (hown.lt g hg).1)
          clear hat7 hg7
          go_wp2
          go_roundw
          case rel => exact ⟨k + 1, A7, _, c7, done ++ p.old, by omega, by go_num, rfl, by simp, by simp; omega, Lib.hid Hnx.out.symm, by simpa using hown7, hb7⟩
          case measure => simp [intOf]; omega
        · have e : sideLines s p = p.one := by unfold sideLines sideOf; rw [hcl, hs]; rfl
          have k0 : ((s : Int) == 0) = false := by simp; omega
          have k1 : ((s : Int) == 1) = true := by simp; omega
          clear hs
          rw [e] at hnx hsl
          have Hnx := Lib.hid hnx
          clear hnx hcl e
          go_wp2_with (at_builtin; refine wpList_append_src _ rfl (.tmp 48) (.tmp 53) _ rfl w.heap.size 9 is _ 1 16 Try.underlying22 si0 si1 si2 si3 rfl (by omega) _ done.length _ rfl hown _ p.one.length e3 _ rfl (Text.src r3) ?e2 ?e3 ?e4 ?e5 ?_)
          case e2 => exact texts_one _
          case e3 => unfold maxLen; omega
          case e4 => omega
          case e5 => omega
          intro A7 c7 w7 hown7 hg7 hat7
          have hb7 : Below w.heap.size w w7 := hb.grown hg7 (by omega) (fun g hg => (hown.lt g hg).1)
          clear hat7 hg7
          go_wp2
          go_roundw
          case rel => exact ⟨k + 1, A7, _, c7, done ++ p.one, by omega, by go_num, rfl, by simp, by simp; omega, Lib.hid Hnx.out.symm, by simpa using hown7, hb7⟩
          case measure => simp [intOf]; omega
        · have e : sideLines s p = p.two := by unfold sideLines sideOf; rw [hcl, hs]; rfl
          have k0 : ((s : Int) == 0) = false := by simp; omega
          have k1 : ((s : Int) == 1) = false := by simp; omega
          clear hs
          rw [e] at hnx hsl
          have Hnx := Lib.hid hnx
          clear hnx hcl e
          go_wp2_with (at_builtin; refine wpList_append_src _ rfl (.tmp 14) (.tmp 19) _ rfl w.heap.size 9 is _ 1 16 Try.underlying22 si0 si1 si2 si3 rfl (by omega) _ done.length _ rfl hown _ p.two.length e4 _ rfl (Text.src r4) ?e2 ?e3 ?e4 ?e5 ?_)
          case e2 => exact texts_one _
          case e3 => unfold maxLen; omega
          case e4 => omega
          case e5 => omega
          intro A7 c7 w7 hown7 hg7 hat7
          have hb7 : Below w.heap.size w w7 := hb.grown hg7 (by omega) (fun g hg => (hown.lt g hg).1)
          clear hat7 hg7
          go_wp2
          go_roundw
          case rel => exact ⟨k + 1, A7, _, c7, done ++ p.two, by omega, by go_num, rfl, by simp, by simp; omega, Lib.hid Hnx.out.symm, by simpa using hown7, hb7⟩
          case measure => simp [intOf]; omega
    · obtain rfl : k = ps.length := by omega
      subst hn'
      have ht2 := ht.out
      rw [List.take_length] at ht2
      subst ht2
      have hf := Fresh.of_row hown (owns_strs _ _)
      have Hf := Lib.hid hf
      clear hf hown
      go_wp2
      go_ret
      exact ⟨_, _, _, rfl, hb, Hf.out⟩
theorem piece_small {t : List Str} {i j m : Nat} (h : ∀ s ∈ t, s.length ≤ m) : ∀ s ∈ piece t i j, s.length ≤ m := fun s hs => h s (mem_piece hs)
/-- All that a merge has is in the texts. -/
theorem merge_small3 {o a b : List Str} {m : Nat} (ho : ∀ s ∈ o, s.length ≤ m) (ha : ∀ s ∈ a, s.length ≤ m) (hb : ∀ s ∈ b, s.length ≤ m) : ∀ (xs ys : List Int) (i io ia ib : Nat) (out : List PPart), (∀ p ∈ out, ∀ s ∈ p.old ++ p.one ++ p.two, s.length ≤ m) →
    ∀ p ∈ mergeFrom o a b xs ys i io ia ib out, ∀ s ∈ p.old ++ p.one ++ p.two, s.length ≤ m := by
  have keep : ∀ (out : List PPart) (ls : List Str), (∀ p ∈ out, ∀ s ∈ p.old ++ p.one ++ p.two, s.length ≤ m) → ∀ p ∈ putLines out ls, ∀ s ∈ p.old ++ p.one ++ p.two, s.length ≤ m := by
    intro out ls h q hq
    unfold putLines at hq
    split at hq
    · exact h q hq
    split at hq
    · rcases List.mem_append.1 hq with h1 | h1
      · exact h q h1
      · simp at h1; subst h1; intro s hs; simp [newPart] at hs
    · rename_i p hp
      split at hq
      · rcases List.mem_append.1 hq with h1 | h1
        · exact h q h1
        · simp at h1; subst h1; intro s hs; simp [newPart] at hs
      · rcases List.mem_or_eq_of_mem_set hq with h1 | h1
        · exact h q h1
        · subst h1; exact h p (List.mem_of_getElem? hp)
  intro xs
  induction xs with
  | nil =>
    intro ys i io ia ib out h
    have e : mergeFrom o a b [] ys i io ia ib out = out := by unfold mergeFrom; rfl
    rwa [e]
  | cons x xs ih =>
    intro ys i io ia ib out h
    cases ys with
    | nil =>
      have e : mergeFrom o a b (x :: xs) [] i io ia ib out = out := by unfold mergeFrom; rfl
      rwa [e]
    | cons y ys =>
      rw [mergeFrom]
      split
      · exact ih ys _ _ _ _ out h
      · refine ih ys _ _ _ _ _ (keep _ _ (fun p hp => ?_))
        unfold putPiece at hp
        split at hp
        · exact keep _ _ h p hp
        split at hp
        · exact keep _ _ h p hp
        · rcases List.mem_append.1 hp with h1 | h1
          · exact h p h1
          · simp only [List.mem_singleton] at h1
            subst h1
            intro s hs
            simp only [clashPart, List.mem_append] at hs
            rcases hs with (hs | hs) | hs
            · exact ho s (mem_piece hs)
            · exact ha s (mem_piece hs)
            · exact hb s (mem_piece hs)
theorem side_small {o a b : List Str} {m s : Nat} (ho : ∀ s ∈ o, s.length ≤ m) (ha : ∀ s ∈ a, s.length ≤ m) (hb : ∀ s ∈ b, s.length ≤ m) : ∀ t ∈ (mergeOf o a b).flatMap (sideLines s), t.length ≤ m := by
  intro t ht
  obtain ⟨p, hp, ht⟩ := List.mem_flatMap.1 ht
  have h1 := merge_small ho ha hb _ _ _ _ _ _ [] (fun p hp => by cases hp) p hp
  have h2 := merge_small3 ho ha hb _ _ _ _ _ _ [] (fun p hp => by cases hp) p hp
  unfold sideLines sideOf at ht
  split at ht
  · refine h2 t ?_
    split at ht
    · simp [ht]
    split at ht
    · simp [ht]
    · simp [ht]
  · exact h1 t ht

set_option maxHeartbeats 800000 in
theorem spec_MergeSide_any (A1 A2 A3 : Option Addr) (n1 c1 n2 c2 n3 c3 : Nat) (xs ys zs : List Str) (m : Int) (w : World) (lo hi lo' hi' lo'' hi'' : Nat) (h1 : Rep w lo hi (encText xs) (.slice A1 n1 c1)) (h2 : Rep w lo' hi' (encText ys) (.slice A2 n2 c2)) (h3 : Rep w lo'' hi'' (encText zs) (.slice A3 n3 c3))
    (hh1 : hi ≤ w.heap.size) (hh2 : hi' ≤ w.heap.size) (hh3 : hi'' ≤ w.heap.size) (hs1 : ∀ s ∈ xs, s.length ≤ 9223372036854775807) (hs2 : ∀ s ∈ ys, s.length ≤ 9223372036854775807) (hs3 : ∀ s ∈ zs, s.length ≤ 9223372036854775807) :
    Calls Try.prog 29 #[.slice A1 n1 c1, .slice A2 n2 c2, .slice A3 n3 c3, .int .i64 m] w fun e w' => ∃ A n c, e = .returned (.tuple #[.slice A n c, .bool (mergeSide xs ys zs m).isSome]) ∧ Below w.heap.size w w' ∧ Fresh w' w.heap.size w'.heap.size (encText ((mergeSide xs ys zs m).getD [])) (.slice A n c) := by
  have cin := fun w => spec_l1In_any m 0 2 w
  have q1 := spec_l1Ok_any _ _ _ xs w _ _ h1 hs1
  have q2 := spec_l1Ok_any _ _ _ ys w _ _ h2 hs2
  have q3 := spec_l1Ok_any _ _ _ zs w _ _ h3 hs3
  cases t1 : textOk xs
  · rw [t1] at q1
    rw [mergeSide_bad (by unfold mergeOk; rw [t1]; rfl)]
    clear t1
    go_enter Try.func29, Try.ntmps29
    go_wp2_with fail
    refine q1.mono ?_; rintro e w' ⟨rfl, rfl⟩
    go_wp2
    go_ret2
    exact ⟨none, 0, 0, rfl, Below.refl _ _, Fresh.nil _ _ _ _ _⟩
  rw [t1] at q1
  cases t2 : textOk ys
  · rw [t2] at q2
    rw [mergeSide_bad (by unfold mergeOk; rw [t1, t2]; rfl)]
    clear t1 t2
    go_enter Try.func29, Try.ntmps29
    go_wp2_with fail
    refine q1.mono ?_; rintro e w' ⟨rfl, rfl⟩
    go_wp2_with fail
    refine q2.mono ?_; rintro e w' ⟨rfl, rfl⟩
    go_wp2
    go_ret2
    exact ⟨none, 0, 0, rfl, Below.refl _ _, Fresh.nil _ _ _ _ _⟩
  rw [t2] at q2
  cases t3 : textOk zs
  · rw [t3] at q3
    rw [mergeSide_bad (by unfold mergeOk; rw [t1, t2, t3]; rfl)]
    clear t1 t2 t3
    go_enter Try.func29, Try.ntmps29
    go_wp2_with fail
    refine q1.mono ?_; rintro e w' ⟨rfl, rfl⟩
    go_wp2_with fail
    refine q2.mono ?_; rintro e w' ⟨rfl, rfl⟩
    go_wp2_with fail
    refine q3.mono ?_; rintro e w' ⟨rfl, rfl⟩
    go_wp2
    go_ret2
    exact ⟨none, 0, 0, rfl, Below.refl _ _, Fresh.nil _ _ _ _ _⟩
  rw [t3] at q3
  have l1 := textOk_len t1
  have l2 := textOk_len t2
  have l3 := textOk_len t3
  have hmo : mergeOk xs ys zs = true := by unfold mergeOk; rw [t1, t2, t3]; rfl
  clear t1 t2 t3
  cases t : inRange m 0 2
  · rw [t] at cin
    rw [mergeSide_no t]
    clear t hmo
    go_enter Try.func29, Try.ntmps29
    go_wp2_with fail
    refine q1.mono ?_; rintro e w' ⟨rfl, rfl⟩
    go_wp2_with fail
    refine q2.mono ?_; rintro e w' ⟨rfl, rfl⟩
    go_wp2_with fail
    refine q3.mono ?_; rintro e w' ⟨rfl, rfl⟩
    go_wp2_with fail
    refine Calls.mono (cin _) ?_; rintro e w' ⟨rfl, rfl⟩
    go_wp2
    go_ret2
    exact ⟨none, 0, 0, rfl, Below.refl _ _, Fresh.nil _ _ _ _ _⟩
  rw [t] at cin
  obtain ⟨s, rfl, hs⟩ : ∃ s : Nat, m = s ∧ s ≤ 2 := ⟨m.toNat, by unfold inRange at t; simp at t; omega⟩
  rw [mergeSide_yes t, Int.toNat_natCast, mergedOf_yes hmo]
  have Hj := Lib.hid (joinOk_some (join_side s (mergeOf xs ys zs)))
  have hsm := side_small (s := s) hs1 hs2 hs3
  have hfew := mergeOf_few l1 l2 l3
  clear t hmo
  go_enter Try.func29, Try.ntmps29
  go_wp2_with fail
  refine q1.mono ?_; rintro e w' ⟨rfl, rfl⟩
  go_wp2_with fail
  refine q2.mono ?_; rintro e w' ⟨rfl, rfl⟩
  go_wp2_with fail
  refine q3.mono ?_; rintro e w' ⟨rfl, rfl⟩
  go_wp2_with fail
  refine Calls.mono (cin _) ?_; rintro e w' ⟨rfl, rfl⟩
  go_wp2_with fail
  refine (spec_l3Of_any _ _ _ _ _ _ _ _ _ xs ys zs w (h1.mono (Nat.zero_le _) hh1) (h2.mono (Nat.zero_le _) hh2) (h3.mono (Nat.zero_le _) hh3) l1 l2 l3).mono ?_
  rintro e w1 ⟨A, n, c, rfl, hb1, hf1⟩
  have hs1' := hb1.size
  go_wp2_with fail
  refine (spec_l3Side_any s hs A n c _ w1 _ _ hf1.rep (Nat.le_refl _) hfew).mono ?_
  rintro e w2 ⟨A', n', c', rfl, hb2, hf2⟩
  have hbw := hb1.trans (hb2.mono hs1')
  have Hf := Lib.hid (hf2.mono (lo' := w.heap.size) hs1' (Nat.le_refl _))
  have hct := spec_l1Ok_any _ _ _ _ w2 _ _ hf2.rep hsm
  obtain ⟨ls, hls⟩ : ∃ ls, ls = (mergeOf xs ys zs).flatMap (sideLines s) := ⟨_, rfl⟩
  rw [← hls] at hct Hf Hj
  clear hf1 hf2 hb2 hsm hls
  cases hto : textOk ls
  all_goals
    rw [hto] at hct
    have Hv := Lib.hid (by have := Hj.out; rw [hto] at this; exact this)
    clear hto
    go_wp2_with fail
    refine hct.mono ?_; rintro e w' ⟨rfl, rfl⟩
    go_wp2
    go_ret2
    rw [Hv.out]
  · exact ⟨none, 0, 0, rfl, hbw, Fresh.nil _ _ _ _ _⟩
  · exact ⟨_, _, _, rfl, hbw, Hf.out⟩
end Go.Proofs.Ytbnhebmfgjdocaa
