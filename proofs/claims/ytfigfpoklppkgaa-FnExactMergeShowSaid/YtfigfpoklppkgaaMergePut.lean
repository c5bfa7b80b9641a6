/- Walk: the program's way to put lines behind parts. -/
import Derived.Test.YtfigfpoklppkgaaMergeMem
import Derived.Deep.RegionLaw
namespace Go.Proofs.Ytfigfpoklppkgaa
open Go.RowKit

theorem Try.infoPart : (Try.prog.info? 31).map (fun i => (i.zero, i.size, i.bytes)) = some (some (.agg #[.bool false, .slice none 0 0, .slice none 0 0, .slice none 0 0, .slice none 0 0]), 5, 104) := by kernel_rfl
/-- A variable that holds a list of parts: the list in blocks of its own, the variable's block none of them. -/
def PartsBox (w : World) (Ob : Nat) (F : List Nat) (ps : List PPart) (A : Option Addr) (n c : Nat) : Prop :=
  w.heap[Ob]? = some (.cells #[.slice A n c] 28 (0, 0)) ∧ Own w (encParts ps) (.slice A n c) F ∧ F.Nodup ∧ Ob ∉ F
theorem own_text_inv {w : World} {xs : List Str} {v : Value} {F : List Nat} (h : Own w (encText xs) v F) : F = v.ownBlock.toList ∧ w.ownsRow 0 9 1 v xs.length (xs.map fun s => .string ⟨s.toArray⟩) := by
  obtain ⟨n, us, G, hr, hF, ho⟩ := h
  obtain ⟨rfl, rfl⟩ := owns_strs_inv ho
  have : n = xs.length := by have := hr.1; simp at this; omega
  subst this
  exact ⟨by simpa using hF, hr⟩
/-- One part of such a list. -/
theorem Parts.own {w : World} {ps : List PPart} {A : Option Addr} {n c : Nat} {F : List Nat} {j : Nat} {p : PPart} (h : Own w (encParts ps) (.slice A n c) F) (hj : ps[j]? = some p) :
    ∃ g us G A1 c1, A = some ⟨g, 0, none⟩ ∧ n = ps.length ∧ F = (Value.slice (some ⟨g, 0, none⟩) n c).ownBlock.toList ++ G ∧ w.ownsRow 0 31 5 (.slice (some ⟨g, 0, none⟩) n c) n us ∧ Owns w (ps.flatMap cParts) us G ∧
      us[j * 5 + 1]? = some (.slice A1 p.lines.length c1) ∧ w.ownsRow 0 9 1 (.slice A1 p.lines.length c1) p.lines.length (p.lines.map fun s => .string ⟨s.toArray⟩) ∧ (∀ k, (Value.slice A1 p.lines.length c1).ownBlock = some k → k ∈ G) ∧
      w.cell? ⟨g, j * 5, none⟩ = some (.bool p.clash) ∧ w.cell? ⟨g, j * 5 + 1, none⟩ = some (.slice A1 p.lines.length c1) := by
  obtain ⟨n', us, G, hr, hF, ho⟩ := h
  have hjl := (List.getElem?_eq_some_iff.1 hj).1
  have hul := Owns.length ho
  rw [length_flatMap_z cParts_len] at hul
  have hn' : n' = ps.length := by have := hr.1; omega
  have e0 : (ps.flatMap cParts)[j * 5]? = some (.bool p.clash) := by
    have := flatMap_at cParts_len ps j 0 (by omega)
    rw [hj] at this
    simpa [cParts] using this
  have e1 : (ps.flatMap cParts)[j * 5 + 1]? = some (encText p.lines) := by
    have := flatMap_at cParts_len ps j 1 (by omega)
    rw [hj] at this
    simpa [cParts] using this
  obtain ⟨u0, _, _, _, hu0, _, ho0, _⟩ := Owns.at ho e0
  obtain ⟨u1, Fa, F1, Fb, hu1, hG, ho1, _⟩ := Owns.at ho e1
  obtain ⟨rfl, hr1⟩ := own_text_inv ho1
  obtain ⟨rfl, _⟩ := ho0
  rcases hr.2 with ⟨e, h0⟩ | ⟨g, cap, cur, e, _, r⟩
  · omega
  cases e
  obtain ⟨A1, m1, c1, rfl, hm1⟩ : ∃ A1 m1 c1, u1 = .slice A1 m1 c1 ∧ m1 = p.lines.length := by
    rcases hr1.2 with ⟨rfl, h0⟩ | ⟨g1, cap1, cur1, rfl, _⟩
    · exact ⟨_, _, _, rfl, h0.symm⟩
    · exact ⟨_, _, _, rfl, rfl⟩
  subst hm1
  have c0 := hr.cellAt (j * 5) (by omega)
  have c1' := hr.cellAt (j * 5 + 1) (by omega)
  rw [hu0] at c0
  rw [hu1] at c1'
  subst hn'
  exact ⟨g, us, G, A1, c1, rfl, rfl, hF, hr, ho, hu1, hr1, fun k hk => by rw [hG]; simp [hk], c0, c1'⟩

/-- The cells of such a list. -/
theorem Parts.open_ {w : World} {ps : List PPart} {A : Option Addr} {n c : Nat} {F : List Nat} (h : Own w (encParts ps) (.slice A n c) F) :
    ∃ us G, n = ps.length ∧ w.ownsRow 0 31 5 (.slice A n c) n us ∧ Owns w (ps.flatMap cParts) us G ∧ F = (Value.slice A n c).ownBlock.toList ++ G := by
  obtain ⟨n', us, G, hr, hF, ho⟩ := h
  have hul := Owns.length ho
  rw [length_flatMap_z cParts_len] at hul
  have hn' : n' = ps.length := by have := hr.1; omega
  have : n = n' := by
    rcases hr.2 with ⟨e, h0⟩ | ⟨g, cap, cur, e, _, r⟩
    · cases e; exact h0.symm
    · cases e; rfl
  subst this
  exact ⟨us, G, hn', hr, ho, hF⟩
/-- The lines of one part replaced. -/
theorem Parts.more {w w5 : World} {ps : List PPart} {g n c j m1 m5 c1 c5 : Nat} {A1 A5 : Option Addr} {F : List Nat} {p : PPart} {ls' : List Str} {us5 : List Value} (h : Own w (encParts ps) (.slice (some ⟨g, 0, none⟩) n c) F) (hnd : F.Nodup) (hj : ps[j]? = some p)
    (d1 : w.cell? ⟨g, j * 5 + 1, none⟩ = some (.slice A1 m1 c1)) (h5 : w5.ownsRow 0 9 1 (.slice A5 m5 c5) m5 us5) (hu5 : us5 = ls'.map fun s => .string ⟨s.toArray⟩) (hg5 : w.grownBy w5 (Value.slice A1 m1 c1).ownBlock)
    (hblk : (Value.slice A5 m5 c5).ownBlock = (Value.slice A1 m1 c1).ownBlock ∨ (Value.slice A5 m5 c5).ownBlock = some w.heap.size) :
    ∃ F', Own (w5.setCell ⟨g, j * 5 + 1, none⟩ (.slice A5 m5 c5)) (encParts (ps.set j { p with lines := ls' })) (.slice (some ⟨g, 0, none⟩) n c) F' ∧ F'.Nodup ∧ (∀ k ∈ F', k ∈ F ∨ k = w.heap.size) ∧ Only F w (w5.setCell ⟨g, j * 5 + 1, none⟩ (.slice A5 m5 c5)) := by
  have hlt := Own.lt _ _ _ h
  obtain ⟨g', us, G, A1', c1', e, hn, hF, hrow, ho, hu1, hr1, hG1, d0, d1'⟩ := Parts.own h hj
  cases e
  have hv := Option.some.inj (d1'.symm.trans d1)
  rw [← hv] at hg5 hblk
  subst hF hu5
  exact Own.replaced cParts_len hrow ho hnd (fun k hk => hlt k (List.mem_append_right _ hk)) hj (by omega) (p1' := encText p.lines) rfl hu1 (fun F1 h1 => (own_text_inv h1).1) rfl h5 (fun w => owns_strs _ _) hg5 hblk
theorem PartsBox.more {w w' : World} {Ob : Nat} {F F' : List Nat} {ps ps' : List PPart} {A A' : Option Addr} {n c n' c' : Nat} (h : PartsBox w Ob F ps A n c) (ho : Own w' (encParts ps') (.slice A' n' c') F') (hn : F'.Nodup) (hF : ∀ k ∈ F', k ∈ F ∨ k = w.heap.size) (hon : Only F w w')
    (he : Value.slice A' n' c' = Value.slice A n c) : PartsBox w' Ob F' ps' A' n' c' := by
  refine ⟨?_, ho, hn, fun m => ?_⟩
  · rw [he, hon.block Ob (lt_of_block h.1) h.2.2.2]; exact h.1
  · rcases hF Ob m with m | e
    · exact h.2.2.2 m
    · have := lt_of_block h.1; omega

theorem owns_newPart (w : World) : Owns w (cParts (newPart [])) [.bool false, .slice none 0 0, .slice none 0 0, .slice none 0 0, .slice none 0 0] [] := by
  have e : Own w (encText []) (.slice none 0 0) [] := ⟨0, [], [], World.ownsRow_nil w 0 _ _, rfl, rfl, rfl⟩
  exact ⟨_, _, [], [], rfl, rfl, ⟨rfl, rfl⟩, _, _, [], [], rfl, rfl, e, _, _, [], [], rfl, rfl, e, _, _, [], [], rfl, rfl, e, _, _, [], [], rfl, rfl, e, rfl, rfl⟩
/-- A part behind the others. -/
theorem Parts.snoc {w w7 : World} {ps : List PPart} {p : PPart} {A A7 : Option Addr} {n c n7 c7 : Nat} {F G F' : List Nat} {us news : List Value} {o : Obj} (hrow : w.ownsRow 0 31 5 (.slice A n c) n us) (ho : Owns w (ps.flatMap cParts) us G) (hFe : F = (Value.slice A n c).ownBlock.toList ++ G)
    (hnd : F.Nodup) (hnew : Owns w (cParts p) news F') (hn' : F'.Nodup) (hdis : ∀ k ∈ F', k ∉ F) (h7 : w7.ownsRow 0 31 5 (.slice A7 n7 c7) n7 (us ++ news)) (hg : (w.alloc o).grownBy w7 (Value.slice A n c).ownBlock)
    (hat : (Value.slice A7 n7 c7).ownBlock = (Value.slice A n c).ownBlock ∨ (Value.slice A7 n7 c7).ownBlock = some (w.heap.size + 1)) :
    ∃ F1, Own w7 (encParts (ps ++ [p])) (.slice A7 n7 c7) F1 ∧ F1.Nodup ∧ (∀ k ∈ F1, k ∈ F ∨ k ∈ F' ∨ k = w.heap.size + 1) ∧ Only F w w7 := by
  subst hFe
  have hlt : ∀ k ∈ (Value.slice A n c).ownBlock.toList ++ G, k < w.heap.size := fun k m => by
    rcases List.mem_append.1 m with m | m
    · exact (hrow.lt k (by simpa using m)).2
    · exact Owns.lt _ _ _ ho k m
  have hlt' := Owns.lt _ _ _ hnew
  have hk : ∀ k, k < w.heap.size → (w.alloc o).heap[k]? = w.heap[k]? := fun k hk => Below.heap_alloc w o k (by omega)
  have hsz : (w.alloc o).heap.size = w.heap.size + 1 := by simp
  have := Own.grew (w := w.alloc o) (Owns.same _ _ _ ho fun k m => hk k (hlt k (List.mem_append_right _ m))) hnd (fun k m => by have := hlt k m; omega) (Owns.same _ _ _ hnew fun k m => hk k (hlt' k m)) hn' hdis (fun k m => by have := hlt' k m; omega) h7 hg (by rw [hsz]; exact hat)
  refine ⟨_, ?_, this.2.1, fun k m => ?_, ?_⟩
  · have h1 := this.1
    rwa [show ps.flatMap cParts ++ cParts p = (ps ++ [p]).flatMap cParts by simp] at h1
  · rcases this.2.2 k m with h | h | h
    · exact .inl h
    · exact .inr (.inl h)
    · exact .inr (.inr (by omega))
  · exact (Only.of_below ((Below.refl _ _).alloc (Nat.le_refl _) o)).trans (Only.of_grown hg fun g hg => by simp [hg])
theorem PartsBox.stored {w w7 : World} {Ob : Nat} {F F1 : List Nat} {ps ps' : List PPart} {A A7 : Option Addr} {n c n7 c7 : Nat} (hb : PartsBox w Ob F ps A n c) (ho : Own w7 (encParts ps') (.slice A7 n7 c7) F1) (hn : F1.Nodup) (hO : Ob ∉ F1) (hon : Only F w w7) :
    PartsBox (w7.setCell ⟨Ob, 0, none⟩ (.slice A7 n7 c7)) Ob F1 ps' A7 n7 c7 ∧ Only (Ob :: F) w (w7.setCell ⟨Ob, 0, none⟩ (.slice A7 n7 c7)) := by
  have h7 : w7.heap[Ob]? = some (.cells #[.slice A n c] 28 (0, 0)) := (hon.block Ob (lt_of_block hb.1) hb.2.2.2).trans hb.1
  refine ⟨⟨one_setCell h7, Own.same _ _ _ ho fun k m => Below.heap_setCell _ _ _ _ (fun e => hO (by rw [← show k = Ob from e]; exact m)), hn, hO⟩, (hon.mono fun k m => List.mem_cons_of_mem _ m).setCell (by simp) _⟩
theorem Only.then_new {F G : List Nat} {w w' w'' : World} (h : Only F w w') (h' : Only G w' w'') (hG : ∀ k ∈ G, k ∈ F ∨ w.heap.size ≤ k) : Only F w w'' :=
  ⟨h'.os.trans h.os, h'.tape.trans h.tape, h'.output.trans h.output, Nat.le_trans h.size h'.size, fun k hk hn => (h'.block k (Nat.lt_of_lt_of_le hk h.size) (fun m => by
    rcases hG k m with m | m
    · exact hn m
    · omega)).trans (h.block k hk hn)⟩
theorem set_newPart (ps : List PPart) (ls : List Str) : (ps ++ [newPart []]).set ps.length { newPart [] with lines := ls } = ps ++ [newPart ls] := by
  rw [List.set_append_right _ _ (Nat.le_refl _)]; simp [newPart]

set_option maxRecDepth 100000 in
set_option maxHeartbeats 1600000 in
theorem impl_put_any (ps : List PPart) (ls : List Str) (A A0 : Option Addr) (n c n0 c0 Ob : Nat) (F : List Nat) (w : World) (lo hi : Nat) (h : Rep w lo hi (encText ls) (.slice A n c)) (hh : hi ≤ w.heap.size)
    (hb : PartsBox w Ob F ps A0 n0 c0) (hF : ∀ k ∈ F, k < lo ∨ hi ≤ k) (hO : Ob < lo ∨ hi ≤ Ob) (hpl : ps.length ≤ 1048576) (hll : ls.length ≤ 1048576) (hl : ∀ p ∈ ps, p.lines.length ≤ 1048576) :
    Calls Try.prog 24 #[.slice A n c, .pointer (some ⟨Ob, 0, none⟩)] w fun e w' => e = .returned (.tuple #[]) ∧ ∃ F' A' n' c', PartsBox w' Ob F' (putLines ps ls) A' n' c' ∧ (∀ k ∈ F', k ∈ F ∨ w.heap.size ≤ k) ∧ Only (Ob :: F) w w' := by
  have hn := Text.n h
  obtain ⟨hc, hm⟩ := Text.cap h
  subst hn
  by_cases hls : ls = []
  · subst hls
    go_enter Try.func24, Try.ntmps24
    go_wp2
    refine bodyPost_ret (results_none rfl _ _ _) rfl ?_
    exact ⟨rfl, F, _, _, _, by rw [putLines_nil]; exact hb, fun k hk => .inl hk, Only.refl _ _⟩
  have hls0 : ¬ ((ls.length : Int) = 0) := by
    intro e
    exact hls (List.eq_nil_of_length_eq_zero (by omega))
  have hlsb : ((ls.length : Int) == 0) = false := by simpa using hls0
  have cB := cell_of_one hb.1
  have fB := free_of_one hb.1
  have hOlt := lt_of_block hb.1
  obtain ⟨is, si0, si1, si2, si3⟩ := info_parts Try.infoStr
  by_cases hlast : ∃ p, ps[ps.length - 1]? = some p ∧ p.clash = false
  · obtain ⟨p, hp, hpc⟩ := hlast
    obtain ⟨g, us, G, A1, c1, rfl, hnp, hFe, hrow, ho, hu1, hr1, hG1, d0, d1⟩ := Parts.own hb.2.1 hp
    have hpos : 0 < ps.length := by have := (List.getElem?_eq_some_iff.1 hp).1; omega
    obtain ⟨j, hj⟩ : ∃ j, ps.length = j + 1 := ⟨ps.length - 1, by omega⟩
    rw [hj] at hnp d0 d1 hp
    subst hnp
    simp only [Nat.add_sub_cancel] at d0 d1 hp
    rw [hpc] at d0
    have hfin := putLines_more hls (by rw [hj]; exact hp) hpc
    rw [hj, Nat.add_sub_cancel] at hfin
    have Hfin := Lib.hid hfin
    have Hp := Lib.hid hp
    have hj8 : j ≤ 1048576 := by omega
    have hpl8 := hl p (List.mem_of_getElem? hp)
    have hgG : g ∉ G := fun m => by
      have := hb.2.2.1
      rw [hFe] at this
      exact (List.nodup_append.1 this).2.2 g (by simp [Value.ownBlock]) g m rfl
    have hOG : Ob ∉ G := fun m => hb.2.2.2 (by rw [hFe]; exact List.mem_append_right _ m)
    have hglt := (hrow.lt g rfl).2
    have f1 := hrow.frozenAt (j * 5 + 1)
    have hO1 : some Ob ≠ (Value.slice A1 p.lines.length c1).ownBlock := fun e => hOG (hG1 _ e.symm)
    have hg1 : some g ≠ (Value.slice A1 p.lines.length c1).ownBlock := fun e => hgG (hG1 _ e.symm)
    have hS := Text.src (show Rep w.drew lo hi _ (.slice A ls.length c) from h.drewN 1)
    have hr1d : w.drew.ownsRow 0 9 1 (.slice A1 p.lines.length c1) p.lines.length (p.lines.map fun s => .string ⟨s.toArray⟩) := hr1
    have cBW := cB
    clear hp hj hpos hfin hls hls0
    go_enter Try.func24, Try.ntmps24
    go_wp2
    go_region_law (first
      | (refine step_append_src _ (by rfl) (.tmp 31) (.tmp 32) _ (by rfl) 0 9 is _ 1 16 Try.underlying22 si0 si1 si2 si3 (by rfl) (by omega) _ p.lines.length _ (by rfl) hr1d A ls.length c _ (by rfl) hS (texts_one _) (by unfold maxLen; omega) (by omega) (Nat.zero_le _) ?_
         intro A5 c5 w5 hown5 hg5 hat5
         change World.grownBy _ w5 (Value.slice A1 p.lines.length c1).ownBlock at hg5
         change _ = (Value.slice A1 p.lines.length c1).ownBlock ∨ _ at hat5
         have cB5 : w5.cell? ⟨Ob, 0, none⟩ = some (.slice (some ⟨g, 0, none⟩) (j + 1) c0) := (hg5.cell_far ⟨Ob, 0, none⟩ hOlt hO1).trans cBW
         have d15 : w5.cell? ⟨g, j * 5 + 1, none⟩ = some (.slice A1 p.lines.length c1) := (hg5.cell_far ⟨g, j * 5 + 1, none⟩ hglt hg1).trans d1
         have f15 : w5.frozen? ⟨g, j * 5 + 1, none⟩ = false := (hg5.frozen_far ⟨g, j * 5 + 1, none⟩ hglt hg1).trans f1))
    all_goals
      have hg5' : w.grownBy w5 (Value.slice A1 p.lines.length c1).ownBlock := ⟨hg5.os, hg5.tape, hg5.output, hg5.size, hg5.block⟩
      clear cB5 d15 f15 hg5
      go_wp2
      go_end0
      obtain ⟨F', hO', hN', hF', hon⟩ := Parts.more hb.2.1 hb.2.2.1 Hp.out d1 (ls' := p.lines ++ ls) hown5 (List.map_append).symm hg5' hat5
      exact ⟨rfl, F', _, _, _, by rw [Hfin.out]; exact hb.more hO' hN' hF' hon rfl, fun k hk => (hF' k hk).imp id (fun e => by omega), hon.mono (fun k hk => List.mem_cons_of_mem _ hk)⟩
  · have hfin := putLines_new hls (out := ps) (fun p hp => by
      cases hc : p.clash
      · exact absurd ⟨p, hp, hc⟩ hlast
      · rfl)
    have Hfin := Lib.hid hfin
    obtain ⟨us, G, hn0, hrow, ho, hFe⟩ := Parts.open_ hb.2.1
    obtain ⟨ip, pi0, pi1, pi2, pi3⟩ := info_parts Try.infoPart
    have hul := hrow.1
    have hOv : (Value.slice A0 n0 c0).ownBlock ≠ some Ob := fun e => hb.2.2.2 (by rw [hFe]; exact List.mem_append_left _ (by simp [e]))
    by_cases hps : ps = []
    · subst hps
      have : n0 = 0 := by simpa using hn0
      subst this
      clear hfin hls hls0 hlast hn0 hul
      go_enter Try.func24, Try.ntmps24
      go_wp2_with (at_builtin; refine wpList_append_src _ rfl (.tmp 19) (.tmp 21) _ rfl 0 31 ip _ 5 104 Try.underlying28 pi0 pi1 pi2 pi3 rfl (by omega) _ 0 us rfl (hrow.alloc _) _ 1 1 [.bool false, .slice none 0 0, .slice none 0 0, .slice none 0 0, .slice none 0 0] rfl (Src.lit w 31 [.bool false, .slice none 0 0, .slice none 0 0, .slice none 0 0, .slice none 0 0] 5 1 rfl) ?e2 ?e3 ?e4 ?e5 ?_)
      case e2 => intro u hu; simp at hu; rcases hu with rfl | rfl | rfl | rfl | rfl <;> rfl
      case e3 => unfold maxLen; omega
      case e4 => omega
      case e5 => exact Nat.zero_le _
      intro A7 c7 w7 hown7 hg7 hat7
      obtain ⟨F1, hO1, hN1, hF1, hon1⟩ := Parts.snoc hrow ho hFe hb.2.2.1 (owns_newPart w) .nil (fun k m => by cases m) hown7 hg7 hat7
      have hOF1 : Ob ∉ F1 := fun m => by
        rcases hF1 Ob m with m | m | m
        · exact hb.2.2.2 m
        · cases m
        · omega
      have h7 : w7.heap[Ob]? = some (.cells #[.slice A0 0 c0] 28 (0, 0)) := (hon1.block Ob hOlt hb.2.2.2).trans hb.1
      have cB7 := cell_of_one h7
      have fB7 := free_of_one h7
      have hst := hb.stored hO1 hN1 hOF1 hon1
      clear hown7 hg7 hat7 h7
      go_wp2
      refine name_world ?_
      intro W hW
      rw [← hW] at hst
      obtain ⟨hbW, honW⟩ := hst
      clear hW cB7 fB7 cB fB hOlt
      have hpn : ([] ++ [newPart []])[([] : List PPart).length]? = some (newPart []) := by simp
      obtain ⟨g, us1, G1, A1, c1, rfl, -, hFe1, hrow1, -, -, hr1, hG1, -, d1o⟩ := Parts.own hbW.2.1 hpn
      have d1 : W.cell? ⟨g, 1, none⟩ = some (.slice A1 0 c1) := by have := d1o; simp only [List.length_nil, Nat.zero_mul, Nat.zero_add, newPart] at this; exact this
      have cBW := cell_of_one hbW.1
      have f1 := hrow1.frozenAt (1)
      have hglt := (hrow1.lt g rfl).2
      have hOlt := lt_of_block hbW.1
      have hgG : g ∉ G1 := fun m => by
        have := hbW.2.2.1
        rw [hFe1] at this
        exact (List.nodup_append.1 this).2.2 g (by simp [Value.ownBlock]) g m rfl
      have hOG : Ob ∉ G1 := fun m => hbW.2.2.2 (by rw [hFe1]; exact List.mem_append_right _ m)
      have hO1' : some Ob ≠ (Value.slice A1 0 c1).ownBlock := fun e => hOG (hG1 _ e.symm)
      have hg1 : some g ≠ (Value.slice A1 0 c1).ownBlock := fun e => hgG (hG1 _ e.symm)
      have hRW := h.same (honW.same (fun k m => by
        rcases List.mem_cons.1 m with rfl | m
        · exact hO
        · exact hF k m) hh)
      have hS := Text.src (show Rep W.drew lo hi _ (.slice A ls.length c) from hRW.drewN 1)
      have hr1d : W.drew.ownsRow 0 9 1 (.slice A1 0 c1) 0 (([] : List Str).map fun s => .string ⟨s.toArray⟩) := hr1
      have Hpn := Lib.hid hpn
      clear hpn
      go_region_law (first
        | (refine step_append_src _ (by rfl) (.tmp 31) (.tmp 32) _ (by rfl) 0 9 is _ 1 16 Try.underlying22 si0 si1 si2 si3 (by rfl) (by omega) _ 0 _ (by rfl) hr1d A ls.length c _ (by rfl) hS (texts_one _) (by unfold maxLen; omega) (by omega) (Nat.zero_le _) ?_
           intro A5 c5 w5 hown5 hg5 hat5
           rw [Nat.zero_add] at hown5 hat5
           change World.grownBy _ w5 (Value.slice A1 0 c1).ownBlock at hg5
           change _ = (Value.slice A1 0 c1).ownBlock ∨ _ at hat5
           have cB5 : w5.cell? ⟨Ob, 0, none⟩ = some (.slice (some ⟨g, 0, none⟩) (0 + 1) c7) := (hg5.cell_far ⟨Ob, 0, none⟩ hOlt hO1').trans cBW
           have d15 : w5.cell? ⟨g, 1, none⟩ = some (.slice A1 0 c1) := (hg5.cell_far ⟨g, 1, none⟩ hglt hg1).trans d1
           have f15 : w5.frozen? ⟨g, 1, none⟩ = false := (hg5.frozen_far ⟨g, 1, none⟩ hglt hg1).trans f1))
      all_goals
        have hg5' : W.grownBy w5 (Value.slice A1 0 c1).ownBlock := ⟨hg5.os, hg5.tape, hg5.output, hg5.size, hg5.block⟩
        clear cB5 d15 f15 hg5
        go_wp2
        go_end0
        have hmore := Parts.more hbW.2.1 hbW.2.2.1 Hpn.out d1o (ls' := ls) hown5 rfl hg5' hat5
        rw [set_newPart] at hmore
        simp only [List.length_nil, Nat.zero_mul, Nat.zero_add, newPart] at hmore
        obtain ⟨F', hO', hN', hF', hon⟩ := hmore
        have hF1' : ∀ k ∈ F1, k ∈ F ∨ w.heap.size ≤ k := fun k m => by
          rcases hF1 k m with m | m | m
          · exact .inl m
          · cases m
          · exact .inr (by omega)
        refine ⟨rfl, F', _, _, _, by rw [Hfin.out]; exact hbW.more hO' hN' hF' hon rfl, fun k hk => ?_, honW.then_new hon (fun k m => (hF1' k m).imp (fun m => List.mem_cons_of_mem _ m) id)⟩
        rcases hF' k hk with m | m
        · exact hF1' k m
        · have := honW.size
          exact .inr (by omega)
    · obtain ⟨j, hj⟩ : ∃ j, ps.length = j + 1 := ⟨ps.length - 1, by have : ps.length ≠ 0 := fun e => hps (List.eq_nil_of_length_eq_zero e); omega⟩
      obtain ⟨p, hp⟩ : ∃ p, ps[ps.length - 1]? = some p := ⟨_, List.getElem?_eq_getElem (by omega)⟩
      have hpc : p.clash = true := by
        cases hc : p.clash
        · exact absurd ⟨p, hp, hc⟩ hlast
        · rfl
      obtain ⟨g0, _, _, _, _, rfl, -, -, -, -, -, -, -, d0, -⟩ := Parts.own hb.2.1 hp
      rw [hj] at hn0 d0
      subst hn0
      rw [hpc, Nat.add_sub_cancel] at d0
      have hj8 : j ≤ 1048576 := by omega
      have Hj := Lib.hid hj
      have hj0 : (0 : Int) ≤ (j : Int) + 1 := by omega
      clear hfin hls hls0 hlast hul hj hp hps
      go_enter Try.func24, Try.ntmps24
      go_wp2_with (at_builtin; refine wpList_append_src _ rfl (.tmp 19) (.tmp 21) _ rfl 0 31 ip _ 5 104 Try.underlying28 pi0 pi1 pi2 pi3 rfl (by omega) _ (j + 1) us rfl (hrow.alloc _) _ 1 1 [.bool false, .slice none 0 0, .slice none 0 0, .slice none 0 0, .slice none 0 0] rfl (Src.lit w 31 [.bool false, .slice none 0 0, .slice none 0 0, .slice none 0 0, .slice none 0 0] 5 1 rfl) ?e2 ?e3 ?e4 ?e5 ?_)
      case e2 => intro u hu; simp at hu; rcases hu with rfl | rfl | rfl | rfl | rfl <;> rfl
      case e3 => unfold maxLen; omega
      case e4 => omega
      case e5 => exact Nat.zero_le _
      intro A7 c7 w7 hown7 hg7 hat7
      obtain ⟨F1, hO1, hN1, hF1, hon1⟩ := Parts.snoc hrow ho hFe hb.2.2.1 (owns_newPart w) .nil (fun k m => by cases m) hown7 hg7 hat7
      have hOF1 : Ob ∉ F1 := fun m => by
        rcases hF1 Ob m with m | m | m
        · exact hb.2.2.2 m
        · cases m
        · omega
      have h7 : w7.heap[Ob]? = some (.cells #[.slice (some ⟨g0, 0, none⟩) (j + 1) c0] 28 (0, 0)) := (hon1.block Ob hOlt hb.2.2.2).trans hb.1
      have cB7 := cell_of_one h7
      have fB7 := free_of_one h7
      have hst := hb.stored hO1 hN1 hOF1 hon1
      clear hown7 hg7 hat7 h7
      go_wp2
      refine name_world ?_
      intro W hW
      rw [← hW] at hst
      obtain ⟨hbW, honW⟩ := hst
      clear hW cB7 fB7 cB fB hOlt
      have hpn : (ps ++ [newPart []])[(ps : List PPart).length]? = some (newPart []) := by simp
      obtain ⟨g, us1, G1, A1, c1, rfl, -, hFe1, hrow1, -, -, hr1, hG1, -, d1o⟩ := Parts.own hbW.2.1 hpn
      have d1 : W.cell? ⟨g, (j + 1) * 5 + 1, none⟩ = some (.slice A1 0 c1) := by have := d1o; rw [Hj.out] at this; exact this
      have cBW := cell_of_one hbW.1
      have f1 := hrow1.frozenAt ((j + 1) * 5 + 1)
      have hglt := (hrow1.lt g rfl).2
      have hOlt := lt_of_block hbW.1
      have hgG : g ∉ G1 := fun m => by
        have := hbW.2.2.1
        rw [hFe1] at this
        exact (List.nodup_append.1 this).2.2 g (by simp [Value.ownBlock]) g m rfl
      have hOG : Ob ∉ G1 := fun m => hbW.2.2.2 (by rw [hFe1]; exact List.mem_append_right _ m)
      have hO1' : some Ob ≠ (Value.slice A1 0 c1).ownBlock := fun e => hOG (hG1 _ e.symm)
      have hg1 : some g ≠ (Value.slice A1 0 c1).ownBlock := fun e => hgG (hG1 _ e.symm)
      have hRW := h.same (honW.same (fun k m => by
        rcases List.mem_cons.1 m with rfl | m
        · exact hO
        · exact hF k m) hh)
      have hS := Text.src (show Rep W.drew lo hi _ (.slice A ls.length c) from hRW.drewN 1)
      have hr1d : W.drew.ownsRow 0 9 1 (.slice A1 0 c1) 0 (([] : List Str).map fun s => .string ⟨s.toArray⟩) := hr1
      have Hpn := Lib.hid hpn
      clear hpn
      go_region_law (first
        | (refine step_append_src _ (by rfl) (.tmp 31) (.tmp 32) _ (by rfl) 0 9 is _ 1 16 Try.underlying22 si0 si1 si2 si3 (by rfl) (by omega) _ 0 _ (by rfl) hr1d A ls.length c _ (by rfl) hS (texts_one _) (by unfold maxLen; omega) (by omega) (Nat.zero_le _) ?_
           intro A5 c5 w5 hown5 hg5 hat5
           rw [Nat.zero_add] at hown5 hat5
           change World.grownBy _ w5 (Value.slice A1 0 c1).ownBlock at hg5
           change _ = (Value.slice A1 0 c1).ownBlock ∨ _ at hat5
           have cB5 : w5.cell? ⟨Ob, 0, none⟩ = some (.slice (some ⟨g, 0, none⟩) (j + 1 + 1) c7) := (hg5.cell_far ⟨Ob, 0, none⟩ hOlt hO1').trans cBW
           have d15 : w5.cell? ⟨g, (j + 1) * 5 + 1, none⟩ = some (.slice A1 0 c1) := (hg5.cell_far ⟨g, (j + 1) * 5 + 1, none⟩ hglt hg1).trans d1
           have f15 : w5.frozen? ⟨g, (j + 1) * 5 + 1, none⟩ = false := (hg5.frozen_far ⟨g, (j + 1) * 5 + 1, none⟩ hglt hg1).trans f1))
      all_goals
        have hg5' : W.grownBy w5 (Value.slice A1 0 c1).ownBlock := ⟨hg5.os, hg5.tape, hg5.output, hg5.size, hg5.block⟩
        clear cB5 d15 f15 hg5
        go_wp2
        go_end0
        have hmore := Parts.more hbW.2.1 hbW.2.2.1 Hpn.out d1o (ls' := ls) hown5 rfl hg5' hat5
        rw [set_newPart] at hmore
        rw [Hj.out] at hmore
        obtain ⟨F', hO', hN', hF', hon⟩ := hmore
        have hF1' : ∀ k ∈ F1, k ∈ F ∨ w.heap.size ≤ k := fun k m => by
          rcases hF1 k m with m | m | m
          · exact .inl m
          · cases m
          · exact .inr (by omega)
        refine ⟨rfl, F', _, _, _, by rw [Hfin.out]; exact hbW.more hO' hN' hF' hon rfl, fun k hk => ?_, honW.then_new hon (fun k m => (hF1' k m).imp (fun m => List.mem_cons_of_mem _ m) id)⟩
        rcases hF' k hk with m | m
        · exact hF1' k m
        · have := honW.size
          exact .inr (by omega)
end Go.Proofs.Ytfigfpoklppkgaa
