/- Walk: the reference's way to put a part behind others. -/
import Derived.Test.YtfigfpoklppkgaaSpecPart
namespace Go.Proofs.Ytfigfpoklppkgaa
open Go.RowKit

def putPart (ps : List PPart) (p : PPart) : List PPart := if p.clash then ps ++ [p] else putLines ps p.lines
theorem own_text_slice {w : World} {xs : List Str} {v : Value} {F : List Nat} (h : Own w (encText xs) v F) : ∃ A c, v = .slice A xs.length c := by
  obtain ⟨_, hr⟩ := own_text_inv h
  rcases hr.2 with ⟨rfl, h0⟩ | ⟨g1, cap1, cur1, rfl, _⟩
  · exact ⟨none, 0, by rw [h0]⟩
  · exact ⟨_, _, rfl⟩
/-- The cells of one part that owns its blocks. -/
theorem Part.cells {w : World} {p : PPart} {us : List Value} {G : List Nat} (h : Owns w (cParts p) us G) : ∃ B1 d1 B2 m2 d2 B3 m3 d3 B4 m4 d4, us = [.bool p.clash, .slice B1 p.lines.length d1, .slice B2 m2 d2, .slice B3 m3 d3, .slice B4 m4 d4] ∧
    Rep w 0 w.heap.size (encText p.lines) (.slice B1 p.lines.length d1) ∧ ∀ k, (Value.slice B1 p.lines.length d1).ownBlock = some k → k ∈ G := by
  obtain ⟨u0, _, F0, G0, rfl, hG0, h0, u1, _, F1, G1, rfl, hG1, h1, u2, _, F2, G2, rfl, hG2, h2, u3, _, F3, G3, rfl, hG3, h3, u4, _, F4, G4, rfl, hG4, h4, rfl, rfl⟩ := h
  obtain ⟨rfl, rfl⟩ := h0
  obtain ⟨B1, d1, rfl⟩ := own_text_slice h1
  obtain ⟨B2, d2, rfl⟩ := own_text_slice h2
  obtain ⟨B3, d3, rfl⟩ := own_text_slice h3
  obtain ⟨B4, d4, rfl⟩ := own_text_slice h4
  refine ⟨B1, d1, B2, _, d2, B3, _, d3, B4, _, d4, rfl, Own.rep _ _ _ h1 (fun k hk => ⟨Nat.zero_le _, Own.lt _ _ _ h1 k hk⟩), fun k hk => ?_⟩
  have := (own_text_inv h1).1
  rw [hG0, hG1, this]
  simp [hk]

set_option maxRecDepth 100000 in
set_option maxHeartbeats 3200000 in
theorem spec_l3Put_any (ps : List PPart) (p : PPart) (A : Option Addr) (n c : Nat) (us : List Value) (F G : List Nat) (w : World) (h : Own w (encParts ps) (.slice A n c) F) (hnd : F.Nodup) (hu : Owns w (cParts p) us G) (hgn : G.Nodup) (hdis : ∀ k ∈ G, k ∉ F)
    (hp : p.clash = false → p = newPart p.lines) (hpl : ps.length ≤ 1048576) (hll : p.lines.length ≤ 1048576) (hl : ∀ q ∈ ps, q.lines.length ≤ 1048576) :
    Calls Try.prog 20 #[.slice A n c, .agg us.toArray] w fun e w' => ∃ F' A' n' c', e = .returned (.slice A' n' c') ∧ Own w' (encParts (putPart ps p)) (.slice A' n' c') F' ∧ F'.Nodup ∧ (∀ k ∈ F', k ∈ F ∨ k ∈ G ∨ w.heap.size ≤ k) ∧ Only F w w' := by
  obtain ⟨B1, d1, B2, m2, d2, B3, m3, d3, B4, m4, d4, rfl, hR, hG1⟩ := Part.cells hu
  obtain ⟨hd1, hdm⟩ := Text.cap hR
  have hx := fun o => (Below.refl w.heap.size w).alloc (Nat.le_refl _) o
  have hFl := Own.lt _ _ _ h
  have hGl := Owns.lt _ _ _ hu
  obtain ⟨ip, pi0, pi1, pi2, pi3⟩ := info_parts Try.infoPart
  obtain ⟨is, si0, si1, si2, si3⟩ := info_parts Try.infoStr
  cases hc : p.clash
  · have Hpn := Lib.hid (hp hc)
    clear hp
    have hput : putPart ps p = putLines ps p.lines := by unfold putPart; rw [hc]; rfl
    rw [hc] at hu
    by_cases hls : p.lines = []
    · have hl0 : p.lines.length = 0 := by rw [hls]; rfl
      rw [hls, putLines_nil] at hput
      have Hput := Lib.hid hput
      clear hput hls
      go_enter Try.func20, Try.ntmps20
      go_wp2
      go_ret
      exact ⟨F, _, _, _, rfl, by rw [Hput.out]; exact Own.same _ _ _ h (fun k hk => (hx _).block k (hFl k hk)), hnd, fun k hk => .inl hk, Only.of_below (hx _)⟩
    have hls0 : ((p.lines.length : Int) == 0) = false := by
      simp
      exact hls
    by_cases hlast : ∃ q, ps[ps.length - 1]? = some q ∧ q.clash = false
    · obtain ⟨q, hq, hqc⟩ := hlast
      have hfin := hput.trans (putLines_more hls hq hqc)
      have hO0 : Own (w.alloc (Obj.cells #[.bool false, .slice B1 p.lines.length d1, .slice B2 m2 d2, .slice B3 m3 d3, .slice B4 m4 d4] 31)) (encParts ps) (.slice A n c) F := Own.same _ _ _ h (fun k hk => (hx _).block k (hFl k hk))
      have hU0 : Owns (w.alloc (Obj.cells #[.bool false, .slice B1 p.lines.length d1, .slice B2 m2 d2, .slice B3 m3 d3, .slice B4 m4 d4] 31)) (cParts p) [.bool false, .slice B1 p.lines.length d1, .slice B2 m2 d2, .slice B3 m3 d3, .slice B4 m4 d4] G := Owns.same _ _ _ hu (fun k hk => (hx _).block k (hGl k hk))
      have hlit : Src ((w.alloc (Obj.cells #[.bool false, .slice B1 p.lines.length d1, .slice B2 m2 d2, .slice B3 m3 d3, .slice B4 m4 d4] 31)).alloc (Obj.cells #[.bool false, .slice B1 p.lines.length d1, .slice B2 m2 d2, .slice B3 m3 d3, .slice B4 m4 d4] 31)) 5 (some ⟨w.heap.size + 1, 0, none⟩) 1 [.bool false, .slice B1 p.lines.length d1, .slice B2 m2 d2, .slice B3 m3 d3, .slice B4 m4 d4] := by
        have := Src.lit (w.alloc (Obj.cells #[.bool false, .slice B1 p.lines.length d1, .slice B2 m2 d2, .slice B3 m3 d3, .slice B4 m4 d4] 31)) 31 [.bool false, .slice B1 p.lines.length d1, .slice B2 m2 d2, .slice B3 m3 d3, .slice B4 m4 d4] 5 1 rfl
        simpa using this
      obtain ⟨g, us1, G1, A1, c1, rfl, hnp, hFe, hrow, ho, hu1, hr1, hG2, e0, e1⟩ := Parts.own hO0 hq
      have hpos : 0 < ps.length := by have := (List.getElem?_eq_some_iff.1 hq).1; omega
      obtain ⟨j, hj⟩ : ∃ j, ps.length = j + 1 := ⟨ps.length - 1, by omega⟩
      rw [hj] at hnp e0 e1 hq hfin
      subst hnp
      simp only [Nat.add_sub_cancel] at e0 e1 hq hfin
      rw [hqc] at e0
      have Hfin := Lib.hid hfin
      have Hq := Lib.hid hq
      have hj8 : j ≤ 1048576 := by omega
      have hql8 := hl q (List.mem_of_getElem? hq)
      have hgG : g ∉ G1 := fun m => by
        have := hnd
        rw [hFe] at this
        exact (List.nodup_append.1 this).2.2 g (by simp [Value.ownBlock]) g m rfl
      have hglt := (hrow.lt g rfl).2
      have f1 := hrow.frozenAt (j * 5 + 1)
      have hg1 : some g ≠ (Value.slice A1 q.lines.length c1).ownBlock := fun e => hgG (hG2 _ e.symm)
      have hr1d : (w.alloc (Obj.cells #[.bool false, .slice B1 p.lines.length d1, .slice B2 m2 d2, .slice B3 m3 d3, .slice B4 m4 d4] 31)).drew.ownsRow 0 9 1 (.slice A1 q.lines.length c1) q.lines.length (q.lines.map fun s => .string ⟨s.toArray⟩) := hr1
      have hS := Text.src (show Rep (w.alloc (Obj.cells #[.bool false, .slice B1 p.lines.length d1, .slice B2 m2 d2, .slice B3 m3 d3, .slice B4 m4 d4] 31)).drew 0 w.heap.size _ (.slice B1 p.lines.length d1) from (hR.keep (hx _) (Nat.le_refl _)).same (fun _ _ _ => rfl))
      have hjI : (j : Int) < (j : Int) + 1 := by omega
      have hj0 : (0 : Int) ≤ (j : Int) := by omega
      have hwj : IntKind.i64.wrap (j : Int) = (j : Int) := by rw [IntKind.wrap_i64]; omega
      clear hq hj hpos hfin hput hls
      go_enter Try.func20, Try.ntmps20
      go_wp2
      go_region_law (first
        | (refine step_append_src _ (by rfl) (.tmp 42) (.tmp 44) _ (by rfl) 0 9 is _ 1 16 Try.underlying22 si0 si1 si2 si3 (by rfl) (by omega) _ q.lines.length _ (by rfl) hr1d B1 p.lines.length d1 _ (by rfl) hS (texts_one _) (by unfold maxLen; omega) (by omega) (Nat.zero_le _) ?_
           intro A5 c5 w5 hown5 hg5 hat5
           change World.grownBy _ w5 (Value.slice A1 q.lines.length c1).ownBlock at hg5
           change _ = (Value.slice A1 q.lines.length c1).ownBlock ∨ _ at hat5
           have d15 : w5.cell? ⟨g, j * 5 + 1, none⟩ = some (.slice A1 q.lines.length c1) := (hg5.cell_far ⟨g, j * 5 + 1, none⟩ hglt hg1).trans e1
           have f15 : w5.frozen? ⟨g, j * 5 + 1, none⟩ = false := (hg5.frozen_far ⟨g, j * 5 + 1, none⟩ hglt hg1).trans f1))
      all_goals
        have hg5' : (w.alloc (Obj.cells #[.bool false, .slice B1 p.lines.length d1, .slice B2 m2 d2, .slice B3 m3 d3, .slice B4 m4 d4] 31)).grownBy w5 (Value.slice A1 q.lines.length c1).ownBlock := ⟨hg5.os, hg5.tape, hg5.output, hg5.size, hg5.block⟩
        clear d15 f15 hg5
        go_wp2
        go_ret
        obtain ⟨F', hO', hN', hF', hon⟩ := Parts.more hO0 hnd Hq.out e1 (ls' := q.lines ++ p.lines) hown5 (List.map_append).symm hg5' hat5
        refine ⟨F', _, _, _, rfl, by rw [Hfin.out]; exact hO', hN', fun k hk => ?_, (Only.of_below (hx _)).trans hon⟩
        rcases hF' k hk with m | m
        · exact .inl m
        · exact .inr (.inr (by simp at m; omega))
    · have hfin := hput.trans (putLines_new hls (out := ps) (fun q hq => by
        cases hqc : q.clash
        · exact absurd ⟨q, hq, hqc⟩ hlast
        · rfl))
      rw [← Hpn.out] at hfin
      have Hp := Lib.hid hfin
      have hO0 : Own (w.alloc (Obj.cells #[.bool false, .slice B1 p.lines.length d1, .slice B2 m2 d2, .slice B3 m3 d3, .slice B4 m4 d4] 31)) (encParts ps) (.slice A n c) F := Own.same _ _ _ h (fun k hk => (hx _).block k (hFl k hk))
      have hU0 : Owns (w.alloc (Obj.cells #[.bool false, .slice B1 p.lines.length d1, .slice B2 m2 d2, .slice B3 m3 d3, .slice B4 m4 d4] 31)) (cParts p) [.bool false, .slice B1 p.lines.length d1, .slice B2 m2 d2, .slice B3 m3 d3, .slice B4 m4 d4] G := Owns.same _ _ _ hu (fun k hk => (hx _).block k (hGl k hk))
      have hlit : Src ((w.alloc (Obj.cells #[.bool false, .slice B1 p.lines.length d1, .slice B2 m2 d2, .slice B3 m3 d3, .slice B4 m4 d4] 31)).alloc (Obj.cells #[.bool false, .slice B1 p.lines.length d1, .slice B2 m2 d2, .slice B3 m3 d3, .slice B4 m4 d4] 31)) 5 (some ⟨w.heap.size + 1, 0, none⟩) 1 [.bool false, .slice B1 p.lines.length d1, .slice B2 m2 d2, .slice B3 m3 d3, .slice B4 m4 d4] := by
        have := Src.lit (w.alloc (Obj.cells #[.bool false, .slice B1 p.lines.length d1, .slice B2 m2 d2, .slice B3 m3 d3, .slice B4 m4 d4] 31)) 31 [.bool false, .slice B1 p.lines.length d1, .slice B2 m2 d2, .slice B3 m3 d3, .slice B4 m4 d4] 5 1 rfl
        simpa using this
      obtain ⟨us, G1, hn0, hrow, ho, hFe⟩ := Parts.open_ hO0
      have hul := hrow.1
      by_cases hps : ps = []
      · have hn00 : n = 0 := by rw [hn0, hps]; rfl
        subst hn00
        clear hfin hput hls hlast hn0 hul hps
        go_enter Try.func20, Try.ntmps20
        go_wp2_with (at_builtin; refine wpList_append_src _ rfl (.tmp 49) (.tmp 51) _ rfl 0 31 ip _ 5 104 Try.underlying28 pi0 pi1 pi2 pi3 rfl (by omega) _ 0 us rfl (hrow.alloc _) _ 1 1 [.bool false, .slice B1 p.lines.length d1, .slice B2 m2 d2, .slice B3 m3 d3, .slice B4 m4 d4] rfl hlit ?e2 ?e3 ?e4 ?e5 ?_)
        case e2 => intro u hu; simp at hu; rcases hu with rfl | rfl | rfl | rfl | rfl <;> rfl
        case e3 => unfold maxLen; omega
        case e4 => omega
        case e5 => exact Nat.zero_le _
        intro A7 c7 w7 hown7 hg7 hat7
        obtain ⟨F1, hO1, hN1, hF1, hon1⟩ := Parts.snoc hrow ho hFe hnd hU0 hgn hdis hown7 hg7 (by simpa using hat7)
        clear hown7 hg7 hat7
        go_wp2
        go_ret
        refine ⟨F1, _, _, _, rfl, by rw [Hp.out]; exact hO1, hN1, fun k hk => ?_, (Only.of_below (hx _)).trans hon1⟩
        rcases hF1 k hk with m | m | m
        · exact .inl m
        · exact .inr (.inl m)
        · refine .inr (.inr ?_)
          simp at m
          omega
      · obtain ⟨j, hj⟩ : ∃ j, ps.length = j + 1 := ⟨ps.length - 1, by have : ps.length ≠ 0 := fun e => hps (List.eq_nil_of_length_eq_zero e); omega⟩
        obtain ⟨q, hq⟩ : ∃ q, ps[ps.length - 1]? = some q := ⟨_, List.getElem?_eq_getElem (by omega)⟩
        have hqc : q.clash = true := by
          cases hqc : q.clash
          · exact absurd ⟨q, hq, hqc⟩ hlast
          · rfl
        obtain ⟨g0, _, _, _, _, rfl, -, -, -, -, -, -, -, e0, -⟩ := Parts.own hO0 hq
        rw [hj] at hn0 e0
        subst hn0
        rw [hqc, Nat.add_sub_cancel] at e0
        have hj8 : j ≤ 1048576 := by omega
        have hjI : (j : Int) < (j : Int) + 1 := by omega
        clear hfin hput hls hlast hul hj hq hps
        go_enter Try.func20, Try.ntmps20
        go_wp2_with (at_builtin; refine wpList_append_src _ rfl (.tmp 49) (.tmp 51) _ rfl 0 31 ip _ 5 104 Try.underlying28 pi0 pi1 pi2 pi3 rfl (by omega) _ (j + 1) us rfl (hrow.alloc _) _ 1 1 [.bool false, .slice B1 p.lines.length d1, .slice B2 m2 d2, .slice B3 m3 d3, .slice B4 m4 d4] rfl hlit ?e2 ?e3 ?e4 ?e5 ?_)
        case e2 => intro u hu; simp at hu; rcases hu with rfl | rfl | rfl | rfl | rfl <;> rfl
        case e3 => unfold maxLen; omega
        case e4 => omega
        case e5 => exact Nat.zero_le _
        intro A7 c7 w7 hown7 hg7 hat7
        obtain ⟨F1, hO1, hN1, hF1, hon1⟩ := Parts.snoc hrow ho hFe hnd hU0 hgn hdis hown7 hg7 (by simpa using hat7)
        clear hown7 hg7 hat7
        go_wp2
        go_ret
        refine ⟨F1, _, _, _, rfl, by rw [Hp.out]; exact hO1, hN1, fun k hk => ?_, (Only.of_below (hx _)).trans hon1⟩
        rcases hF1 k hk with m | m | m
        · exact .inl m
        · exact .inr (.inl m)
        · refine .inr (.inr ?_)
          simp at m
          omega
  · have hput : putPart ps p = ps ++ [p] := by unfold putPart; rw [hc]; rfl
    have Hp := Lib.hid hput
    rw [hc] at hu
    clear hput
    have hO0 : Own (w.alloc (Obj.cells #[.bool true, .slice B1 p.lines.length d1, .slice B2 m2 d2, .slice B3 m3 d3, .slice B4 m4 d4] 31)) (encParts ps) (.slice A n c) F := Own.same _ _ _ h (fun k hk => (hx _).block k (hFl k hk))
    have hU0 : Owns (w.alloc (Obj.cells #[.bool true, .slice B1 p.lines.length d1, .slice B2 m2 d2, .slice B3 m3 d3, .slice B4 m4 d4] 31)) (cParts p) [.bool true, .slice B1 p.lines.length d1, .slice B2 m2 d2, .slice B3 m3 d3, .slice B4 m4 d4] G := Owns.same _ _ _ hu (fun k hk => (hx _).block k (hGl k hk))
    have hlit : Src ((w.alloc (Obj.cells #[.bool true, .slice B1 p.lines.length d1, .slice B2 m2 d2, .slice B3 m3 d3, .slice B4 m4 d4] 31)).alloc (Obj.cells #[.bool true, .slice B1 p.lines.length d1, .slice B2 m2 d2, .slice B3 m3 d3, .slice B4 m4 d4] 31)) 5 (some ⟨w.heap.size + 1, 0, none⟩) 1 [.bool true, .slice B1 p.lines.length d1, .slice B2 m2 d2, .slice B3 m3 d3, .slice B4 m4 d4] := by
      have := Src.lit (w.alloc (Obj.cells #[.bool true, .slice B1 p.lines.length d1, .slice B2 m2 d2, .slice B3 m3 d3, .slice B4 m4 d4] 31)) 31 [.bool true, .slice B1 p.lines.length d1, .slice B2 m2 d2, .slice B3 m3 d3, .slice B4 m4 d4] 5 1 rfl
      simpa using this
    obtain ⟨us, G1, hn0, hrow, ho, hFe⟩ := Parts.open_ hO0
    have hn8 : n ≤ 1048576 := by rw [hn0]; exact hpl
    by_cases hn00 : n = 0
    · subst hn00
      clear hn0
      go_enter Try.func20, Try.ntmps20
      go_wp2_with (at_builtin; refine wpList_append_src _ rfl (.tmp 49) (.tmp 51) _ rfl 0 31 ip _ 5 104 Try.underlying28 pi0 pi1 pi2 pi3 rfl (by omega) _ 0 us rfl (hrow.alloc _) _ 1 1 [.bool true, .slice B1 p.lines.length d1, .slice B2 m2 d2, .slice B3 m3 d3, .slice B4 m4 d4] rfl hlit ?e2 ?e3 ?e4 ?e5 ?_)
      case e2 => intro u hu; simp at hu; rcases hu with rfl | rfl | rfl | rfl | rfl <;> rfl
      case e3 => unfold maxLen; omega
      case e4 => omega
      case e5 => exact Nat.zero_le _
      intro A7 c7 w7 hown7 hg7 hat7
      obtain ⟨F1, hO1, hN1, hF1, hon1⟩ := Parts.snoc hrow ho hFe hnd hU0 hgn hdis hown7 hg7 (by simpa using hat7)
      clear hown7 hg7 hat7
      go_wp2
      go_ret
      refine ⟨F1, _, _, _, rfl, by rw [Hp.out]; exact hO1, hN1, fun k hk => ?_, (Only.of_below (hx _)).trans hon1⟩
      rcases hF1 k hk with m | m | m
      · exact .inl m
      · exact .inr (.inl m)
      · refine .inr (.inr ?_)
        simp at m
        omega
    · have hnI : (0 : Int) < (n : Int) := by omega
      clear hn0
      go_enter Try.func20, Try.ntmps20
      go_wp2_with (at_builtin; refine wpList_append_src _ rfl (.tmp 49) (.tmp 51) _ rfl 0 31 ip _ 5 104 Try.underlying28 pi0 pi1 pi2 pi3 rfl (by omega) _ n us rfl (hrow.alloc _) _ 1 1 [.bool true, .slice B1 p.lines.length d1, .slice B2 m2 d2, .slice B3 m3 d3, .slice B4 m4 d4] rfl hlit ?e2 ?e3 ?e4 ?e5 ?_)
      case e2 => intro u hu; simp at hu; rcases hu with rfl | rfl | rfl | rfl | rfl <;> rfl
      case e3 => unfold maxLen; omega
      case e4 => omega
      case e5 => exact Nat.zero_le _
      intro A7 c7 w7 hown7 hg7 hat7
      obtain ⟨F1, hO1, hN1, hF1, hon1⟩ := Parts.snoc hrow ho hFe hnd hU0 hgn hdis hown7 hg7 (by simpa using hat7)
      clear hown7 hg7 hat7
      go_wp2
      go_ret
      refine ⟨F1, _, _, _, rfl, by rw [Hp.out]; exact hO1, hN1, fun k hk => ?_, (Only.of_below (hx _)).trans hon1⟩
      rcases hF1 k hk with m | m | m
      · exact .inl m
      · exact .inr (.inl m)
      · refine .inr (.inr ?_)
        simp at m
        omega
end Go.Proofs.Ytfigfpoklppkgaa
