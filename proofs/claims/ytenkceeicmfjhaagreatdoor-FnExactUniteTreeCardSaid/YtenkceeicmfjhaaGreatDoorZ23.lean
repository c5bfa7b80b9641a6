/- Several of my texts in one: MergeFn, Merged, SpecText. -/
import Derived.Test.YtenkceeicmfjhaaGreatDoorSpecMerge
/- Walks: MergeOf: the program's and the reference's. -/
namespace Go.Proofs.YtenkceeicmfjhaaGreatDoor
open Go.RowKit

set_option maxHeartbeats 400000 in
theorem impl_areTexts_any (A1 A2 A3 : Option Addr) (n1 c1 n2 c2 n3 c3 : Nat) (xs ys zs : List Str) (w : World) (lo hi lo' hi' lo'' hi'' : Nat) (h1 : Rep w lo hi (encText xs) (.slice A1 n1 c1)) (h2 : Rep w lo' hi' (encText ys) (.slice A2 n2 c2)) (h3 : Rep w lo'' hi'' (encText zs) (.slice A3 n3 c3)) :
    Calls Tryz.prog 121 #[.slice A1 n1 c1, .slice A2 n2 c2, .slice A3 n3 c3] w fun e w' => e = .returned (.bool (mergeOk xs ys zs)) ∧ w = w' := by
  cases t1 : textOk xs
  · go_enter Tryz.func121, Tryz.ntmps121
    go_wp2_with fail
    refine (impl_TextOk_any _ _ _ _ _ _ _ h1).mono ?_; rintro e w' ⟨rfl, rfl⟩
    go_wp2
    go_ret
    exact ⟨ret_bool (by rw [mergeOk, t1]; rfl), rfl⟩
  · cases t2 : textOk ys
    · go_enter Tryz.func121, Tryz.ntmps121
      go_wp2_with fail
      refine (impl_TextOk_any _ _ _ _ _ _ _ h1).mono ?_; rintro e w' ⟨rfl, rfl⟩
      go_wp2_with fail
      refine (impl_TextOk_any _ _ _ _ _ _ _ h2).mono ?_; rintro e w' ⟨rfl, rfl⟩
      go_wp2
      go_ret
      exact ⟨ret_bool (by rw [mergeOk, t1, t2]; rfl), rfl⟩
    · go_enter Tryz.func121, Tryz.ntmps121
      go_wp2_with fail
      refine (impl_TextOk_any _ _ _ _ _ _ _ h1).mono ?_; rintro e w' ⟨rfl, rfl⟩
      go_wp2_with fail
      refine (impl_TextOk_any _ _ _ _ _ _ _ h2).mono ?_; rintro e w' ⟨rfl, rfl⟩
      go_wp2_with fail
      refine (impl_TextOk_any _ _ _ _ _ _ _ h3).mono ?_; rintro e w' ⟨rfl, rfl⟩
      go_wp2
      go_ret
      exact ⟨ret_bool (by rw [mergeOk, t1, t2]; simp), rfl⟩
theorem mergeOk_len {xs ys zs : List Str} (h : mergeOk xs ys zs = true) : xs.length ≤ 10 ∧ ys.length ≤ 10 ∧ zs.length ≤ 10 := by
  unfold mergeOk at h
  simp only [Bool.and_eq_true] at h
  exact ⟨textOk_len h.1, textOk_len h.2.1, textOk_len h.2.2⟩
theorem mergeParts_yes {xs ys zs : List Str} (h : mergeOk xs ys zs = true) : mergeParts xs ys zs = mergeOf xs ys zs := by unfold mergeParts; rw [h]; rfl
theorem mergeParts_no {xs ys zs : List Str} (h : mergeOk xs ys zs = false) : mergeParts xs ys zs = [] := by unfold mergeParts; rw [h]; rfl


end Go.Proofs.YtenkceeicmfjhaaGreatDoor

/- Walks: MergeText and MergeSide: the program's. -/
namespace Go.Proofs.YtenkceeicmfjhaaGreatDoor
open Go.RowKit

/-- All lines of parts, each clash as it is resolved; none, if one is not. -/
def joinParts (res : PPart → Option (List Str)) : List PPart → Option (List Str)
  | [] => some []
  | p :: ps => match (if p.clash then res p else some p.lines) with
    | none => none
    | some l => (joinParts res ps).map (l ++ ·)
def joinOk (res : PPart → Option (List Str)) (ps : List PPart) : Option (List Str) := (joinParts res ps).bind fun t => if textOk t then some t else none
def mergedOf (res : PPart → Option (List Str)) (xs ys zs : List Str) : Option (List Str) := if mergeOk xs ys zs then joinOk res (mergeOf xs ys zs) else none
def noRes (_ : PPart) : Option (List Str) := none
def mergeText (xs ys zs : List Str) : Option (List Str) := mergedOf noRes xs ys zs
theorem mergedOf_no {res : PPart → Option (List Str)} {xs ys zs : List Str} (h : mergeOk xs ys zs = false) : mergedOf res xs ys zs = none := by unfold mergedOf; rw [h]; rfl
theorem mergedOf_yes {res : PPart → Option (List Str)} {xs ys zs : List Str} (h : mergeOk xs ys zs = true) : mergedOf res xs ys zs = joinOk res (mergeOf xs ys zs) := by unfold mergedOf; rw [h]; rfl
theorem join_lines {res : PPart → Option (List Str)} {p : PPart} {ps : List PPart} {done l : List Str} (h : (if p.clash then res p else some p.lines) = some l) : (joinParts res (p :: ps)).map (done ++ ·) = (joinParts res ps).map ((done ++ l) ++ ·) := by
  rw [joinParts, h]
  simp only [Option.map_map]
  congr 1
  funext x
  simp
theorem join_none {res : PPart → Option (List Str)} {p : PPart} {ps : List PPart} (h : (if p.clash then res p else some p.lines) = none) : joinParts res (p :: ps) = none := by rw [joinParts, h]
theorem joinOk_none {res : PPart → Option (List Str)} {ps : List PPart} (h : joinParts res ps = none) : joinOk res ps = none := by unfold joinOk; rw [h]; rfl
theorem joinOk_some {res : PPart → Option (List Str)} {ps : List PPart} {t : List Str} (h : joinParts res ps = some t) : joinOk res ps = if textOk t then some t else none := by unfold joinOk; rw [h]; rfl
theorem joinOk_len {res : PPart → Option (List Str)} {ps : List PPart} : ((joinOk res ps).getD []).length ≤ 10 := by
  unfold joinOk
  cases joinParts res ps with
  | none => simp
  | some t =>
    simp only [Option.bind_some]
    split
    · rename_i h
      exact textOk_len h
    · simp
theorem mergedOf_len {res : PPart → Option (List Str)} {xs ys zs : List Str} : ((mergedOf res xs ys zs).getD []).length ≤ 10 := by
  unfold mergedOf
  split
  · exact joinOk_len
  · simp
theorem bnd_MergeText (xs ys zs : List Str) : ((mergeText xs ys zs).getD []).length ≤ 10 := mergedOf_len
set_option maxHeartbeats 400000 in
theorem impl_noRes_any (v0 v1 v2 v3 v4 : Value) (w : World) : Calls Tryz.prog 106 #[.agg #[v0, v1, v2, v3, v4]] w fun e w' => e = .returned (.tuple #[.slice none 0 0, .bool false]) ∧ Below w.heap.size w w' := by
  go_enter Tryz.func106, Tryz.ntmps106
  go_wp2
  go_ret2
  exact ⟨rfl, by (repeat' (first | with_reducible exact Below.refl _ _ | with_reducible assumption | (with_reducible refine Below.setCell ?_ ?_ _) | (with_reducible refine Below.alloc ?_ ?_ _) | (with_reducible refine below_drewN ?_ _) | (with_reducible refine Below.drew ?_) | omega | (simp; done) | (simp; omega)))⟩

set_option maxRecDepth 100000 in
set_option maxHeartbeats 1600000 in
theorem impl_mergedText_any (A1 A2 A3 : Option Addr) (n1 c1 n2 c2 n3 c3 : Nat) (xs ys zs : List Str) (w : World) (lo hi lo' hi' lo'' hi'' : Nat) (h1 : Rep w lo hi (encText xs) (.slice A1 n1 c1)) (h2 : Rep w lo' hi' (encText ys) (.slice A2 n2 c2)) (h3 : Rep w lo'' hi'' (encText zs) (.slice A3 n3 c3))
    (hh1 : hi ≤ w.heap.size) (hh2 : hi' ≤ w.heap.size) (hh3 : hi'' ≤ w.heap.size) :
    Calls Tryz.prog 105 #[.slice A1 n1 c1, .slice A2 n2 c2, .slice A3 n3 c3, .func (.func 106) #[] #[]] w fun e w' => ∃ A n c, e = .returned (.tuple #[.slice A n c, .bool (mergedOf noRes xs ys zs).isSome]) ∧ Below w.heap.size w w' ∧
      Fresh w' w.heap.size w'.heap.size (encText ((mergedOf noRes xs ys zs).getD [])) (.slice A n c) := by
  have ca := impl_areTexts_any _ _ _ _ _ _ _ _ _ xs ys zs w _ _ _ _ _ _ h1 h2 h3
  obtain ⟨is, si0, si1, si2, si3⟩ := info_parts Tryz.infoStr
  cases t : mergeOk xs ys zs
  · rw [t] at ca
    rw [mergedOf_no t]
    clear t
    go_enter Tryz.func105, Tryz.ntmps105
    go_wp2_with fail
    refine ca.mono ?_; rintro e w' ⟨rfl, rfl⟩
    go_wp2
    go_ret2
    exact ⟨none, 0, 0, rfl, Below.refl _ _, Fresh.nil _ _ _ _ _⟩
  rw [t] at ca
  obtain ⟨l1, l2, l3⟩ := mergeOk_len t
  have hres := mergedOf_yes (res := noRes) t
  have hfew := mergeOf_few l1 l2 l3
  clear t
  go_enter Tryz.func105, Tryz.ntmps105
  go_wp2_with fail
  refine ca.mono ?_; rintro e w' ⟨rfl, rfl⟩
  go_wp2_with fail
  refine (impl_mergeOf_any _ _ _ _ _ _ _ _ _ xs ys zs w (h1.mono (Nat.zero_le _) hh1) (h2.mono (Nat.zero_le _) hh2) (h3.mono (Nat.zero_le _) hh3) l1 l2 l3).mono ?_
  rintro e w1 ⟨A, n, c, rfl, hb1, hf1⟩
  obtain ⟨ps, hps⟩ : ∃ ps, ps = mergeOf xs ys zs := ⟨_, rfl⟩
  rw [← hps] at hf1 hres hfew
  have Hres := Lib.hid hres
  have hR := hf1.rep
  have hnp := Parts.n hR
  obtain ⟨hc, hm⟩ := Parts.cap hR
  subst hnp
  have hs1 := hb1.size
  clear hps hf1 hres
  go_wp2
  go_loopw [10, 26] (fun t i wr => ∃ (k : Nat) (A' : Option Addr) (n' c' : Nat) (done : List Str), k ≤ ps.length ∧ i = .int .i64 k ∧ t = .slice A' n' c' ∧ n' = done.length ∧ done.length ≤ 352 * k ∧ Hid ((joinParts noRes (ps.drop k)).map (done ++ ·) = joinParts noRes ps) ∧
      wr.ownsRow w1.heap.size 9 1 (.slice A' n' c') n' (done.map fun s => .string ⟨s.toArray⟩) ∧ Below w1.heap.size w1 wr) (fun _ i _ => ps.length - (intOf i).toNat)
  case atStart => exact ⟨0, none, 0, 0, [], Nat.zero_le _, rfl, rfl, rfl, by simp, Lib.hid (by simp), World.ownsRow_nil _ _ _ _, Below.refl _ _⟩
  case round =>
    obtain ⟨k, A', n', c', done, hk, rfl, rfl, hn', hdl, ht, hown, hb⟩ := hrel
    have hsb := hb.size
    by_cases hkn : k < ps.length
    · have hkn' : (k : Int) < (ps.length : Int) := by omega
      obtain ⟨b1, o1, p, rfl, _, _, hp, B1, m1, e1, B2, m2, e2, B3, m3, e3, B4, m4, e4, d0, d1, r1, d2, r2, d3, r3, d4, r4⟩ := Parts.at (hR.keep hb (Nat.le_refl _)) hkn
      have hpf := hfew.2 p (List.mem_of_getElem? hp)
      have hle2 : 352 * k ≤ 352 * 22 := Nat.mul_le_mul (Nat.le_refl _) (by have := hfew.1; omega)
      have ht2 := ht.out
      rw [drop_cons hp] at ht2
      have hl1 := Text.n r1
      subst hl1 hn'
      have hrr1 := fun o => r1.keep ((Below.refl wr.heap.size wr).alloc (Nat.le_refl _) o) hsb
      clear hp ht
      cases hcl : p.clash
      · rw [hcl] at d0
        rw [join_lines (l := p.lines) (by rw [hcl]; rfl)] at ht2
        have Ht := Lib.hid ht2
        clear ht2 hcl
        go_wp2_with (at_builtin; refine wpList_append_src _ rfl (.tmp 43) (.tmp 44) _ rfl w1.heap.size 9 is _ 1 16 Tryz.underlying59 si0 si1 si2 si3 rfl (by omega) _ done.length _ rfl (hown.alloc _) _ p.lines.length e1 _ rfl (Text.src (hrr1 _)) ?e2 ?e3 ?e4 ?e5 ?_)
        case e2 => exact texts_one _
        case e3 => unfold maxLen; omega
        case e4 => omega
        case e5 => simp; omega
        intro A7 c7 w7 hown7 hg7 hat7
        have hb7 : Below w1.heap.size w1 w7 := (hb.alloc hsb _).grown hg7 (by simp; omega) (fun g hg => (hown.lt g hg).1)
        clear hat7 hg7
        go_wp2
        go_roundw
        case rel => exact ⟨k + 1, A7, _, c7, done ++ p.lines, by omega, by go_num, rfl, by simp, by simp; omega, Ht, by simpa using hown7, hb7⟩
        case measure => simp [intOf]; omega
      · rw [hcl] at d0
        have Hn := Lib.hid (Hres.out.trans (joinOk_none (by rw [← ht2, join_none (by rw [hcl]; rfl)]; rfl)))
        clear ht2 hcl
        go_wp2_with fail
        refine Calls.mono (impl_noRes_any _ _ _ _ _ _) ?_
        rintro e w2 ⟨rfl, hb2⟩
        have hbz := hb1.trans ((hb.trans (((Below.refl wr.heap.size wr).alloc (Nat.le_refl _) _).trans (hb2.mono (by simp)) |>.mono hsb)).mono hs1)
        clear hb2
        go_wp2
        go_ret2
        rw [Hn.out]
        exact ⟨none, 0, 0, rfl, hbz, Fresh.nil _ _ _ _ _⟩
    · obtain rfl : k = ps.length := by omega
      subst hn'
      have ht2 := ht.out
      rw [List.drop_of_length_le (Nat.le_refl _), joinParts] at ht2
      simp only [Option.map_some, List.append_nil] at ht2
      have hok := joinOk_some ht2.symm
      have hf := (Fresh.of_row hown (owns_strs _ _)).mono (lo' := w.heap.size) hs1 (Nat.le_refl _)
      have hfr := (Fresh.of_row hown (owns_strs _ _)).rep
      have Hf := Lib.hid hf
      have hbz := hb1.trans (hb.mono hs1)
      have hct := impl_TextOk_any _ _ _ done wr _ _ hfr
      cases hto : textOk done
      · rw [hto] at hct hok
        have Hok := Lib.hid (Hres.out.trans hok)
        clear hf hown ht2 hok hto
        go_wp2_with fail
        refine hct.mono ?_; rintro e w' ⟨rfl, rfl⟩
        go_wp2
        go_ret2
        rw [Hok.out]
        exact ⟨none, 0, 0, rfl, hbz, Fresh.nil _ _ _ _ _⟩
      · rw [hto] at hct hok
        have Hok := Lib.hid (Hres.out.trans hok)
        clear hf hown ht2 hok hto
        go_wp2_with fail
        refine hct.mono ?_; rintro e w' ⟨rfl, rfl⟩
        go_wp2
        go_ret2
        rw [Hok.out]
        exact ⟨_, _, _, rfl, hbz, Hf.out⟩

set_option maxHeartbeats 400000 in
theorem impl_MergeText_any (A1 A2 A3 : Option Addr) (n1 c1 n2 c2 n3 c3 : Nat) (xs ys zs : List Str) (w : World) (lo hi lo' hi' lo'' hi'' : Nat) (h1 : Rep w lo hi (encText xs) (.slice A1 n1 c1)) (h2 : Rep w lo' hi' (encText ys) (.slice A2 n2 c2)) (h3 : Rep w lo'' hi'' (encText zs) (.slice A3 n3 c3))
    (hh1 : hi ≤ w.heap.size) (hh2 : hi' ≤ w.heap.size) (hh3 : hi'' ≤ w.heap.size) :
    Calls Tryz.prog 90 #[.slice A1 n1 c1, .slice A2 n2 c2, .slice A3 n3 c3] w fun e w' => ∃ A n c, e = .returned (.tuple #[.slice A n c, .bool (mergeText xs ys zs).isSome]) ∧ Below w.heap.size w w' ∧ Fresh w' w.heap.size w'.heap.size (encText ((mergeText xs ys zs).getD [])) (.slice A n c) := by
  go_enter Tryz.func90, Tryz.ntmps90
  go_wp2_with fail
  refine Calls.mono (impl_mergedText_any _ _ _ _ _ _ _ _ _ xs ys zs w _ _ _ _ _ _ h1 h2 h3 hh1 hh2 hh3) ?_
  rintro e w1 ⟨A, n, c, rfl, hb, hf⟩
  go_wp2
  go_ret2
  exact ⟨_, _, _, rfl, hb, hf⟩
end Go.Proofs.YtenkceeicmfjhaaGreatDoor

/- Walks: MergeText: the reference's. -/
namespace Go.Proofs.YtenkceeicmfjhaaGreatDoor
open Go.RowKit

set_option maxRecDepth 100000 in
set_option maxHeartbeats 1600000 in
theorem spec_l3Text_any (A : Option Addr) (n c : Nat) (ps : List PPart) (w : World) (lo hi : Nat) (hR : Rep w lo hi (encParts ps) (.slice A n c)) (hh : hi ≤ w.heap.size) (hfew : fewParts 11 ps) (hsm : ∀ p ∈ ps, ∀ s ∈ p.lines, s.length ≤ 9223372036854775807) :
    Calls Tryz.prog 80 #[.slice A n c] w fun e w' => ∃ A n c, e = .returned (.tuple #[.slice A n c, .bool (joinOk noRes ps).isSome]) ∧ Below w.heap.size w w' ∧ Fresh w' w.heap.size w'.heap.size (encText ((joinOk noRes ps).getD [])) (.slice A n c) := by
  obtain ⟨is, si0, si1, si2, si3⟩ := info_parts Tryz.infoStr
  have hnp := Parts.n hR
  obtain ⟨hc, hm⟩ := Parts.cap hR
  subst hnp
  go_enter Tryz.func80, Tryz.ntmps80
  go_wp2
  go_loopw [4, 5] (fun t i wr => ∃ (k : Nat) (A' : Option Addr) (n' c' : Nat) (done : List Str), k ≤ ps.length ∧ i = .int .i64 k ∧ t = .slice A' n' c' ∧ n' = done.length ∧ done.length ≤ 352 * k ∧ Hid ((joinParts noRes (ps.drop k)).map (done ++ ·) = joinParts noRes ps) ∧ Hid (∀ s ∈ done, s.length ≤ 9223372036854775807) ∧
      wr.ownsRow w.heap.size 9 1 (.slice A' n' c') n' (done.map fun s => .string ⟨s.toArray⟩) ∧ Below w.heap.size w wr) (fun _ i _ => ps.length - (intOf i).toNat)
  case atStart => exact ⟨0, _, 0, 0, [], Nat.zero_le _, rfl, rfl, rfl, by simp, Lib.hid (by simp), Lib.hid (by simp), World.ownsRow_made w #[] 0 (Nat.le_refl _) (Nat.zero_le _) rfl, (Below.refl _ _).alloc (Nat.le_refl _) _⟩
  case round =>
    obtain ⟨k, A', n', c', done, hk, rfl, rfl, hn', hdl, ht, hsd, hown, hb⟩ := hrel
    have hsb := hb.size
    by_cases hkn : k < ps.length
    · have hkn' : (k : Int) < (ps.length : Int) := by omega
      obtain ⟨b1, o1, p, rfl, _, _, hp, B1, m1, e1, B2, m2, e2, B3, m3, e3, B4, m4, e4, d0, d1, r1, d2, r2, d3, r3, d4, r4⟩ := Parts.at (hR.keep hb hh) hkn
      have hpf := hfew.2 p (List.mem_of_getElem? hp)
      have hle2 : 352 * k ≤ 352 * 22 := Nat.mul_le_mul (Nat.le_refl _) (by have := hfew.1; omega)
      have ht2 := ht.out
      rw [drop_cons hp] at ht2
      have hl1 := Text.n r1
      subst hl1 hn'
      have Hsd := Lib.hid (show ∀ s ∈ done ++ p.lines, s.length ≤ 9223372036854775807 from fun s hs => (List.mem_append.1 hs).elim (hsd.out s) (hsm p (List.mem_of_getElem? hp) s))
      clear hp ht hsd
      cases hcl : p.clash
      · rw [hcl] at d0
        rw [join_lines (l := p.lines) (by rw [hcl]; rfl)] at ht2
        have Ht := Lib.hid ht2
        clear ht2 hcl
        go_wp2_with (at_builtin; refine wpList_append_src _ rfl (.tmp 18) (.tmp 23) _ rfl w.heap.size 9 is _ 1 16 Tryz.underlying59 si0 si1 si2 si3 rfl (by omega) _ done.length _ rfl hown _ p.lines.length e1 _ rfl (Text.src r1) ?e2 ?e3 ?e4 ?e5 ?_)
        case e2 => exact texts_one _
        case e3 => unfold maxLen; omega
        case e4 => omega
        case e5 => omega
        intro A7 c7 w7 hown7 hg7 hat7
        have hb7 : Below w.heap.size w w7 := hb.grown hg7 (by omega) (fun g hg => (hown.lt g hg).1)
        clear hat7 hg7
        go_wp2
        go_roundw
        case rel => exact ⟨k + 1, A7, _, c7, done ++ p.lines, by omega, by go_num, rfl, by simp, by simp; omega, Ht, Hsd, by simpa using hown7, hb7⟩
        case measure => simp [intOf]; omega
      · rw [hcl] at d0
        have Hn := Lib.hid (joinOk_none (res := noRes) (ps := ps) (by rw [← ht2, join_none (by rw [hcl]; rfl)]; rfl))
        clear ht2 hcl
        go_wp2
        go_ret2
        rw [Hn.out]
        exact ⟨none, 0, 0, rfl, hb, Fresh.nil _ _ _ _ _⟩
    · obtain rfl : k = ps.length := by omega
      subst hn'
      have ht2 := ht.out
      rw [List.drop_of_length_le (Nat.le_refl _), joinParts] at ht2
      simp only [Option.map_some, List.append_nil] at ht2
      have hok := joinOk_some ht2.symm
      have hf := Fresh.of_row hown (owns_strs _ _)
      have Hf := Lib.hid hf
      have hct := spec_l1Ok_any _ _ _ done wr _ _ hf.rep hsd.out
      cases hto : textOk done
      all_goals
        rw [hto] at hct hok
        have Hok := Lib.hid hok
        clear hf hown ht2 hok hto
        go_wp2_with fail
        refine hct.mono ?_; rintro e w' ⟨rfl, rfl⟩
        go_wp2
        go_ret2
        rw [Hok.out]
      · exact ⟨none, 0, 0, rfl, hb, Fresh.nil _ _ _ _ _⟩
      · exact ⟨_, _, _, rfl, hb, Hf.out⟩
/-- The lines of a merge are lines of the texts. -/
theorem mem_putLines {out : List PPart} {ls : List Str} {s : Str} {q : PPart} (hq : q ∈ putLines out ls) (hs : s ∈ q.lines) : s ∈ ls ∨ ∃ p ∈ out, s ∈ p.lines := by
  unfold putLines at hq
  split at hq
  · exact .inr ⟨q, hq, hs⟩
  split at hq
  · rcases List.mem_append.1 hq with h | h
    · exact .inr ⟨q, h, hs⟩
    · simp at h; subst h; exact .inl hs
  · rename_i p hp
    split at hq
    · rcases List.mem_append.1 hq with h | h
      · exact .inr ⟨q, h, hs⟩
      · simp at h; subst h; exact .inl hs
    · rcases List.mem_or_eq_of_mem_set hq with h | h
      · exact .inr ⟨q, h, hs⟩
      · subst h
        rcases List.mem_append.1 hs with h | h
        · exact .inr ⟨p, List.mem_of_getElem? hp, h⟩
        · exact .inl h
theorem mem_piece {t : List Str} {i j : Nat} {s : Str} (h : s ∈ piece t i j) : s ∈ t := List.mem_of_mem_drop (List.mem_of_mem_take h)
theorem mem_putPiece {out : List PPart} {old one two : List Str} {s : Str} {q : PPart} (hq : q ∈ putPiece out old one two) (hs : s ∈ q.lines) : s ∈ one ∨ s ∈ two ∨ ∃ p ∈ out, s ∈ p.lines := by
  unfold putPiece at hq
  split at hq
  · rcases mem_putLines hq hs with h | h
    · exact .inr (.inl h)
    · exact .inr (.inr h)
  split at hq
  · rcases mem_putLines hq hs with h | h
    · exact .inl h
    · exact .inr (.inr h)
  · rcases List.mem_append.1 hq with h | h
    · exact .inr (.inr ⟨q, h, hs⟩)
    · simp at h; subst h; simp [clashPart] at hs
theorem merge_small {o a b : List Str} {m : Nat} (ho : ∀ s ∈ o, s.length ≤ m) (ha : ∀ s ∈ a, s.length ≤ m) (hb : ∀ s ∈ b, s.length ≤ m) : ∀ (xs ys : List Int) (i io ia ib : Nat) (out : List PPart), (∀ p ∈ out, ∀ s ∈ p.lines, s.length ≤ m) →
    ∀ p ∈ mergeFrom o a b xs ys i io ia ib out, ∀ s ∈ p.lines, s.length ≤ m
  | [], ys, i, io, ia, ib, out, h => by
    have e : mergeFrom o a b [] ys i io ia ib out = out := by unfold mergeFrom; rfl
    rwa [e]
  | x :: xs, [], i, io, ia, ib, out, h => by
    have e : mergeFrom o a b (x :: xs) [] i io ia ib out = out := by unfold mergeFrom; rfl
    rwa [e]
  | x :: xs, y :: ys, i, io, ia, ib, out, h => by
    rw [mergeFrom]
    split
    · exact merge_small ho ha hb xs ys _ _ _ _ out h
    · refine merge_small ho ha hb xs ys _ _ _ _ _ (fun p hp s hs => ?_)
      rcases mem_putLines hp hs with h1 | ⟨q, hq, h1⟩
      · exact ho s (mem_piece h1)
      rcases mem_putPiece hq h1 with h2 | h2 | ⟨r, hr, h2⟩
      · exact ha s (mem_piece h2)
      · exact hb s (mem_piece h2)
      · exact h r hr s h2

end Go.Proofs.YtenkceeicmfjhaaGreatDoor
