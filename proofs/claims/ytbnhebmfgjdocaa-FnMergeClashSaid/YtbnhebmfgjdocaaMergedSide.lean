/- Walks: MergeSide: the program's. -/
import Derived.Test.YtbnhebmfgjdocaaMerged
import Derived.Test.YtbnhebmfgjdocaaRange
namespace Go.Proofs.Ytbnhebmfgjdocaa
open Go.RowKit

def sideOf (s : Nat) (p : PPart) : List Str := if s = 0 then p.old else if s = 1 then p.one else p.two
def sideRes (s : Nat) (p : PPart) : Option (List Str) := some (sideOf s p)
def mergeSide (xs ys zs : List Str) (m : Int) : Option (List Str) := if inRange m 0 2 then mergedOf (sideRes m.toNat) xs ys zs else none
theorem bnd_MergeSide (xs ys zs : List Str) (m : Int) : ((mergeSide xs ys zs m).getD []).length ≤ 10 := by
  unfold mergeSide
  split
  · exact mergedOf_len
  · simp

set_option maxHeartbeats 800000 in
theorem impl_sideRes_any (s : Nat) (hs : s ≤ 2) (Sb : Nat) (v0 v1 : Value) (A2 A3 A4 : Option Addr) (n2 c2 n3 c3 n4 c4 : Nat) (w : World) (hS : w.cell? ⟨Sb, 0, none⟩ = some (.int .i64 s)) :
    Calls Try.prog 49 #[.agg #[v0, v1, .slice A2 n2 c2, .slice A3 n3 c3, .slice A4 n4 c4], .pointer (some ⟨Sb, 0, none⟩)] w fun e w' => e = .returned (.tuple #[if s = 0 then .slice A2 n2 c2 else if s = 1 then .slice A3 n3 c3 else .slice A4 n4 c4, .bool true]) ∧ Below w.heap.size w w' := by
  have hlt := World.block_lt_of_cell? w _ hS
  have hS1 : ∀ o, (w.alloc o).cell? ⟨Sb, 0, none⟩ = some (.int .i64 s) := fun o => (((Below.refl w.heap.size w).alloc (Nat.le_refl _) o).cell (p := ⟨Sb, 0, none⟩) hlt).trans hS
  have hS2 : ∀ o o', ((w.alloc o).alloc o').cell? ⟨Sb, 0, none⟩ = some (.int .i64 s) := fun o o' => ((((Below.refl w.heap.size w).alloc (Nat.le_refl _) o).alloc (by simp) o').cell (p := ⟨Sb, 0, none⟩) hlt).trans hS
  rcases (show s = 0 ∨ s = 1 ∨ s = 2 by omega) with rfl | rfl | rfl
  all_goals
    go_enter Try.func49, Try.ntmps49
    go_wp2
    go_ret2
    exact ⟨rfl, by (repeat' (first | with_reducible exact Below.refl _ _ | with_reducible assumption | (with_reducible refine Below.setCell ?_ ?_ _) | (with_reducible refine Below.alloc ?_ ?_ _) | (with_reducible refine below_drewN ?_ _) | (with_reducible refine Below.drew ?_) | omega | (simp; done) | (simp; omega)))⟩

set_option maxRecDepth 100000 in
set_option maxHeartbeats 1600000 in
theorem impl_mergedSide_any (s : Nat) (hs : s ≤ 2) (Sb : Nat) (A1 A2 A3 : Option Addr) (n1 c1 n2 c2 n3 c3 : Nat) (xs ys zs : List Str) (w : World) (lo hi lo' hi' lo'' hi'' : Nat) (h1 : Rep w lo hi (encText xs) (.slice A1 n1 c1)) (h2 : Rep w lo' hi' (encText ys) (.slice A2 n2 c2)) (h3 : Rep w lo'' hi'' (encText zs) (.slice A3 n3 c3))
    (hh1 : hi ≤ w.heap.size) (hh2 : hi' ≤ w.heap.size) (hh3 : hi'' ≤ w.heap.size) (hS0 : w.cell? ⟨Sb, 0, none⟩ = some (.int .i64 s)) :
    Calls Try.prog 42 #[.slice A1 n1 c1, .slice A2 n2 c2, .slice A3 n3 c3, .func (.func 49) #[] #[.pointer (some ⟨Sb, 0, none⟩)]] w fun e w' => ∃ A n c, e = .returned (.tuple #[.slice A n c, .bool (mergedOf (sideRes s) xs ys zs).isSome]) ∧ Below w.heap.size w w' ∧
      Fresh w' w.heap.size w'.heap.size (encText ((mergedOf (sideRes s) xs ys zs).getD [])) (.slice A n c) := by
  have hSlt0 : Sb < w.heap.size := World.block_lt_of_cell? w _ hS0
  have ca := impl_areTexts_any _ _ _ _ _ _ _ _ _ xs ys zs w _ _ _ _ _ _ h1 h2 h3
  obtain ⟨is, si0, si1, si2, si3⟩ := info_parts Try.infoStr
  cases t : mergeOk xs ys zs
  · rw [t] at ca
    rw [mergedOf_no t]
    clear t
    go_enter Try.func42, Try.ntmps42
    go_wp2_with fail
    refine ca.mono ?_; rintro e w' ⟨rfl, rfl⟩
    go_wp2
    go_ret2
    exact ⟨none, 0, 0, rfl, Below.refl _ _, Fresh.nil _ _ _ _ _⟩
  rw [t] at ca
  obtain ⟨l1, l2, l3⟩ := mergeOk_len t
  have hres := mergedOf_yes (res := (sideRes s)) t
  have hfew := mergeOf_few l1 l2 l3
  clear t
  go_enter Try.func42, Try.ntmps42
  go_wp2_with fail
  refine ca.mono ?_; rintro e w' ⟨rfl, rfl⟩
  go_wp2_with fail
  refine (impl_mergeOf_any _ _ _ _ _ _ _ _ _ xs ys zs w (h1.mono (Nat.zero_le _) hh1) (h2.mono (Nat.zero_le _) hh2) (h3.mono (Nat.zero_le _) hh3) l1 l2 l3).mono ?_
  rintro e w1 ⟨A, n, c, rfl, hb1, hf1⟩
  obtain ⟨ps, hps⟩ : ∃ ps, ps = mergeOf xs ys zs := ⟨_, rfl⟩
  rw [← hps] at hf1 hres hfew
  have Hres := Lib.hid hres
  have hR := hf1.rep
  have hnp := Parts.n hR
  obtain ⟨hc, hm⟩ := Parts.cap hR
  subst hnp
  have hs1 := hb1.size
  clear hps hf1 hres
  go_wp2
  go_loopw [10, 26] (fun t i wr => ∃ (k : Nat) (A' : Option Addr) (n' c' : Nat) (done : List Str), k ≤ ps.length ∧ i = .int .i64 k ∧ t = .slice A' n' c' ∧ n' = done.length ∧ done.length ≤ 352 * k ∧ Hid ((joinParts (sideRes s) (ps.drop k)).map (done ++ ·) = joinParts (sideRes s) ps) ∧
      wr.ownsRow w1.heap.size 9 1 (.slice A' n' c') n' (done.map fun s => .string ⟨s.toArray⟩) ∧ Below w1.heap.size w1 wr) (fun _ i _ => ps.length - (intOf i).toNat)
  case atStart => exact ⟨0, none, 0, 0, [], Nat.zero_le _, rfl, rfl, rfl, by simp, Lib.hid (by simp), World.ownsRow_nil _ _ _ _, Below.refl _ _⟩
  case round =>
    obtain ⟨k, A', n', c', done, hk, rfl, rfl, hn', hdl, ht, hown, hb⟩ := hrel
    have hsb := hb.size
    have hSlt : Sb < wr.heap.size := by omega
    have hS : wr.cell? ⟨Sb, 0, none⟩ = some (.int .i64 s) := ((hb1.trans (hb.mono hs1)).cell (p := ⟨Sb, 0, none⟩) (by exact hSlt0)).trans hS0
    by_cases hkn : k < ps.length
    · have hkn' : (k : Int) < (ps.length : Int) := by omega
      obtain ⟨b1, o1, p, rfl, _, _, hp, B1, m1, e1, B2, m2, e2, B3, m3, e3, B4, m4, e4, d0, d1, r1, d2, r2, d3, r3, d4, r4⟩ := Parts.at (hR.keep hb (Nat.le_refl _)) hkn
      have hpf := hfew.2 p (List.mem_of_getElem? hp)
      have hle2 : 352 * k ≤ 352 * 22 := Nat.mul_le_mul (Nat.le_refl _) (by have := hfew.1; omega)
      have ht2 := ht.out
      rw [drop_cons hp] at ht2
      have hl1 := Text.n r1
      subst hl1 hn'
      have hrr1 := fun o => r1.keep ((Below.refl wr.heap.size wr).alloc (Nat.le_refl _) o) hsb
      clear hp ht
      cases hcl : p.clash
      · rw [hcl] at d0
        rw [join_lines (l := p.lines) (by rw [hcl]; rfl)] at ht2
        have Ht := Lib.hid ht2
        clear ht2 hcl
        go_wp2_with (at_builtin; refine wpList_append_src _ rfl (.tmp 43) (.tmp 44) _ rfl w1.heap.size 9 is _ 1 16 Try.underlying22 si0 si1 si2 si3 rfl (by omega) _ done.length _ rfl (hown.alloc _) _ p.lines.length e1 _ rfl (Text.src (hrr1 _)) ?e2 ?e3 ?e4 ?e5 ?_)
        case e2 => exact texts_one _
        case e3 => unfold maxLen; omega
        case e4 => omega
        case e5 => simp; omega
        intro A7 c7 w7 hown7 hg7 hat7
        have hb7 : Below w1.heap.size w1 w7 := (hb.alloc hsb _).grown hg7 (by simp; omega) (fun g hg => (hown.lt g hg).1)
        clear hat7 hg7
        go_wp2
        go_roundw
        case rel => exact ⟨k + 1, A7, _, c7, done ++ p.lines, by omega, by go_num, rfl, by simp, by simp; omega, Ht, by simpa using hown7, hb7⟩
        case measure => simp [intOf]; omega
      · rw [hcl] at d0
        have hso : (if p.clash then sideRes s p else some p.lines) = some (sideOf s p) := by rw [hcl]; rfl
        rw [join_lines hso] at ht2
        have Ht := Lib.hid ht2
        clear ht2 hcl hso
        have hS1 : ∀ o, (wr.alloc o).cell? ⟨Sb, 0, none⟩ = some (.int .i64 s) := fun o => (((Below.refl wr.heap.size wr).alloc (Nat.le_refl _) o).cell (p := ⟨Sb, 0, none⟩) (by exact hSlt)).trans hS
        have hl2 := Text.n r2
        have hl3 := Text.n r3
        have hl4 := Text.n r4
        subst hl2 hl3 hl4
        have hsl : (sideOf s p).length ≤ 352 := by
          unfold sideOf
          split
          · omega
          split
          · omega
          · omega
        obtain ⟨B5, e5, hv5, hr5⟩ : ∃ B5 e5, (if s = 0 then Value.slice B2 p.old.length e2 else if s = 1 then .slice B3 p.one.length e3 else .slice B4 p.two.length e4) = .slice B5 (sideOf s p).length e5 ∧ Rep wr w.heap.size w1.heap.size (encText (sideOf s p)) (.slice B5 (sideOf s p).length e5) := by
          unfold sideOf
          split
          · exact ⟨_, _, rfl, r2⟩
          split
          · exact ⟨_, _, rfl, r3⟩
          · exact ⟨_, _, rfl, r4⟩
        go_wp2_with fail
        refine Calls.mono (impl_sideRes_any s hs Sb _ _ _ _ _ _ _ _ _ _ _ _ (hS1 _)) ?_
        rw [hv5]
        rintro e w2 ⟨rfl, hb2⟩
        have hbr : Below wr.heap.size wr w2 := ((Below.refl wr.heap.size wr).alloc (Nat.le_refl _) _).trans (hb2.mono (by simp))
        have hs2 := hbr.size
        have hown2 := ownsRow_same (w' := w2) hown (fun q hq => hbr.block q (hown.lt q (by simpa using hq)).2)
        have hr6 := hr5.keep hbr hsb
        have hbw := hb.trans (hbr.mono hsb)
        clear hb2 hv5 hr5
        go_wp2_with (at_builtin; refine wpList_append_src _ rfl (.tmp 43) (.tmp 44) _ rfl w1.heap.size 9 is _ 1 16 Try.underlying22 si0 si1 si2 si3 rfl (by omega) _ done.length _ rfl hown2 _ (sideOf s p).length e5 _ rfl (Text.src hr6) ?e2 ?e3 ?e4 ?e5 ?_)
        case e2 => exact texts_one _
        case e3 => unfold maxLen; omega
        case e4 => omega
        case e5 => omega
        intro A7 c7 w7 hown7 hg7 hat7
        have hb7 : Below w1.heap.size w1 w7 := hbw.grown hg7 (by omega) (fun g hg => (hown.lt g hg).1)
        clear hat7 hg7
        go_wp2
        go_roundw
        case rel => exact ⟨k + 1, A7, _, c7, done ++ sideOf s p, by omega, by go_num, rfl, by simp, by simp; omega, Ht, by simpa using hown7, hb7⟩
        case measure => simp [intOf]; omega
    · obtain rfl : k = ps.length := by omega
      subst hn'
      have ht2 := ht.out
      rw [List.drop_of_length_le (Nat.le_refl _), joinParts] at ht2
      simp only [Option.map_some, List.append_nil] at ht2
      have hok := joinOk_some ht2.symm
      have hf := (Fresh.of_row hown (owns_strs _ _)).mono (lo' := w.heap.size) hs1 (Nat.le_refl _)
      have hfr := (Fresh.of_row hown (owns_strs _ _)).rep
      have Hf := Lib.hid hf
      have hbz := hb1.trans (hb.mono hs1)
      have hct := impl_TextOk_any _ _ _ done wr _ _ hfr
      cases hto : textOk done
      · rw [hto] at hct hok
        have Hok := Lib.hid (Hres.out.trans hok)
        clear hf hown ht2 hok hto
        go_wp2_with fail
        refine hct.mono ?_; rintro e w' ⟨rfl, rfl⟩
        go_wp2
        go_ret2
        rw [Hok.out]
        exact ⟨none, 0, 0, rfl, hbz, Fresh.nil _ _ _ _ _⟩
      · rw [hto] at hct hok
        have Hok := Lib.hid (Hres.out.trans hok)
        clear hf hown ht2 hok hto
        go_wp2_with fail
        refine hct.mono ?_; rintro e w' ⟨rfl, rfl⟩
        go_wp2
        go_ret2
        rw [Hok.out]
        exact ⟨_, _, _, rfl, hbz, Hf.out⟩

theorem mergeSide_no {xs ys zs : List Str} {m : Int} (h : inRange m 0 2 = false) : mergeSide xs ys zs m = none := by unfold mergeSide; rw [h]; rfl
theorem mergeSide_yes {xs ys zs : List Str} {m : Int} (h : inRange m 0 2 = true) : mergeSide xs ys zs m = mergedOf (sideRes m.toNat) xs ys zs := by unfold mergeSide; rw [h]; rfl
set_option maxHeartbeats 800000 in
theorem impl_MergeSide_any (A1 A2 A3 : Option Addr) (n1 c1 n2 c2 n3 c3 : Nat) (xs ys zs : List Str) (m : Int) (w : World) (lo hi lo' hi' lo'' hi'' : Nat) (h1 : Rep w lo hi (encText xs) (.slice A1 n1 c1)) (h2 : Rep w lo' hi' (encText ys) (.slice A2 n2 c2)) (h3 : Rep w lo'' hi'' (encText zs) (.slice A3 n3 c3))
    (hh1 : hi ≤ w.heap.size) (hh2 : hi' ≤ w.heap.size) (hh3 : hi'' ≤ w.heap.size) :
    Calls Try.prog 30 #[.slice A1 n1 c1, .slice A2 n2 c2, .slice A3 n3 c3, .int .i64 m] w fun e w' => ∃ A n c, e = .returned (.tuple #[.slice A n c, .bool (mergeSide xs ys zs m).isSome]) ∧ Below w.heap.size w w' ∧ Fresh w' w.heap.size w'.heap.size (encText ((mergeSide xs ys zs m).getD [])) (.slice A n c) := by
  have hbx := fun o => (Below.refl w.heap.size w).alloc (Nat.le_refl _) o
  have cw := fun w => impl_within_any m 0 2 w
  cases t : inRange m 0 2
  · rw [t] at cw
    rw [mergeSide_no t]
    clear t
    go_enter Try.func30, Try.ntmps30
    go_wp2_with fail
    refine Calls.mono (cw _) ?_; rintro e w' ⟨rfl, rfl⟩
    go_wp2
    go_ret2
    exact ⟨none, 0, 0, rfl, by (repeat' (first | with_reducible exact Below.refl _ _ | with_reducible assumption | (with_reducible refine Below.setCell ?_ ?_ _) | (with_reducible refine Below.alloc ?_ ?_ _) | (with_reducible refine below_drewN ?_ _) | (with_reducible refine Below.drew ?_) | omega | (simp; done) | (simp; omega))), Fresh.nil _ _ _ _ _⟩
  · rw [t] at cw
    obtain ⟨s, rfl, hs⟩ : ∃ s : Nat, m = s ∧ s ≤ 2 := ⟨m.toNat, by unfold inRange at t; simp at t; omega⟩
    rw [mergeSide_yes t, Int.toNat_natCast]
    clear t
    go_enter Try.func30, Try.ntmps30
    go_wp2_with fail
    refine Calls.mono (cw _) ?_; rintro e w' ⟨rfl, rfl⟩
    go_wp2_with fail
    refine Calls.mono (impl_mergedSide_any s hs w.heap.size _ _ _ _ _ _ _ _ _ xs ys zs _ _ _ _ _ _ _ (h1.keep (hbx _) hh1) (h2.keep (hbx _) hh2) (h3.keep (hbx _) hh3) (by simp; omega) (by simp; omega) (by simp; omega) (by simp [go_sem])) ?_
    rintro e w1 ⟨A, n, c, rfl, hb, hf⟩
    have hbw := (hbx _).trans (hb.mono (by simp))
    have Hf := Lib.hid (hf.mono (lo' := w.heap.size) (by simp) (Nat.le_refl _))
    clear hb hf
    go_wp2
    go_ret2
    exact ⟨_, _, _, rfl, hbw, Hf.out⟩
end Go.Proofs.Ytbnhebmfgjdocaa
