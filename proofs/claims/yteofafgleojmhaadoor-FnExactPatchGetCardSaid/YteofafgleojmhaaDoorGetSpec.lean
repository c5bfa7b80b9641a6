/- Walk: the reference's PatchGet. Printed by wip/mk_getspec.py. -/
import Derived.Test.YteofafgleojmhaaDoorGetMem
import Derived.Test.YteofafgleojmhaaDoorHunkOwn2
import Derived.Test.YteofafgleojmhaaDoorNumS
import Derived.Test.YteofafgleojmhaaDoorCut
import Derived.Test.YteofafgleojmhaaDoorWrite3
import Derived.Test.YteofafgleojmhaaDoorPatchOk
import Derived.Deep.RegionLaw
namespace Go.Proofs.YteofafgleojmhaaDoor
open Go.RowKit

theorem numS_bound (s : Str) : -1 ≤ numS s ∧ numS s ≤ 999999 := by
  unfold numS
  split
  · rename_i h
    simp only [Bool.and_eq_true, decide_eq_true_eq] at h
    have := digV_small (s := s) (k := s.length) (by rw [List.take_length]; exact h.1.1.1) h.1.1.2
    rw [List.take_length] at this
    omega
  · omega
set_option maxRecDepth 100000 in
set_option maxHeartbeats 4000000 in
theorem spec_PatchGet_any (s : Str) (w : World) (hs : s.length ≤ 1048576) :
    Calls Tryd.prog 4 #[.string ⟨s.toArray⟩] w fun e w' => ∃ A n c, e = .returned (.tuple #[.slice A n c, .bool (patchGet s).isSome]) ∧ Below w.heap.size w w' ∧ Fresh w' w.heap.size w'.heap.size (encHunks ((patchGet s).getD [])) (.slice A n c) := by
  obtain ⟨v, hv⟩ : ∃ v, v = patchGet s := ⟨_, rfl⟩
  rw [← hv]
  obtain ⟨is, si0, si1, si2, si3⟩ := info_parts Tryd.infoStr
  obtain ⟨ih, gi0, gi1, gi2, gi3⟩ := info_parts Tryd.infoHunk
  obtain ⟨C, hC⟩ : ∃ C, C = cutN 10 169 s := ⟨_, rfl⟩
  obtain ⟨w0, hw0⟩ : ∃ w0 : World, w0 = w.alloc (.cells #[] 32) := ⟨_, rfl⟩
  have hb0 : Below w.heap.size w w0 := by rw [hw0]; exact (Below.refl _ _).alloc (Nat.le_refl _) _
  have hz0 : w0.heap.size = w.heap.size + 1 := by rw [hw0]; simp
  have hst := fun w1 (hb : Below w0.heap.size w0 w1) => HunksIn.start w w1 (by rw [← hw0, ← hz0]; exact hb) w1.heap.size
  have hcut := spec_l1Cut_any s 10 169 w0 (by omega) (by omega)
  rw [← hC] at hcut
  have hvm : v = endG s (parseG (fun l => some (numS l)) [] C.dropLast) := by rw [hv, hC]; rfl
  have hCs : ∀ x ∈ C, x.length ≤ s.length := by rw [hC]; exact cutN_small 10 169 s
  have hCl : C.length ≤ 170 := by rw [hC]; exact cutN_len_le 10 169 s
  obtain ⟨L, hL⟩ : ∃ L, L = C.dropLast := ⟨_, rfl⟩
  have hLl : L.length = C.length - 1 := by rw [hL, List.length_dropLast]
  have HLk := Lib.hid (show ∀ k, k + 1 < C.length → L[k]? = C[k]? from fun k hk => by rw [hL, List.dropLast_eq_take, List.getElem?_take, if_pos (by omega)])
  rw [← hL] at hvm
  have Hv := Lib.hid hvm
  have HCs := Lib.hid hCs
  have Hz0 := Lib.hid hz0
  have hlt0 : w.heap.size < w0.heap.size := by omega
  have HLl := Lib.hid hLl
  clear hv hC hvm hCs hL hz0 hLl
  go_enter Tryd.func4, Tryd.ntmps4
  go_wp2_with fail
  rw [← hw0]
  clear hw0
  refine Calls.mono hcut ?_
  rintro e w1 ⟨A, n, c, rfl, hb1, hR⟩
  have hn := Text.n hR.rep
  obtain ⟨hcc, hcm⟩ := Text.cap hR.rep
  have hs1 := hb1.size
  have hbw := hb0.trans (hb1.mono (by omega))
  have hH1 := hst w1 hb1
  have hR1 : Rep w1 w0.heap.size w1.heap.size (encText C) (.slice A n c) := hR.rep
  subst hn
  clear hcut hR hst hb0 hb1
  go_wp2
  go_loopw [4, 6] (fun t i wr => ∃ (k : Nat) (d : List PHunk) (A' : Option Addr) (c' : Nat), k ≤ L.length ∧ t = .slice A' d.length c' ∧ i = .int .i64 k ∧ Hid (parseG (fun l => some (numS l)) [] (L.take k) = some d) ∧ Hid (∀ h ∈ d, h.less.length ≤ k ∧ h.more.length ≤ k) ∧ Hid (∀ h ∈ d, okHunk h) ∧ d.length ≤ k ∧
      HunksIn wr w.heap.size w1.heap.size d (.slice A' d.length c') ∧ Same w0.heap.size w1.heap.size w1 wr ∧ Below w.heap.size w wr ∧ w1.heap.size ≤ wr.heap.size) (fun _ i _ => C.length - (intOf i).toNat)
  case atStart => exact ⟨0, [], _, 0, Nat.zero_le _, rfl, rfl, Lib.hid rfl, Lib.hid (fun h hh => by cases hh), Lib.hid (fun h hh => by cases hh), Nat.le_refl _, hH1, Same.refl _ _ _, hbw, Nat.le_refl _⟩
  case round =>
    clear hH1 hbw
    obtain ⟨k, d, A', c', hk, rfl, rfl, Hp, Hsm, Hoh, hdk, hH, hsame, hb, hsw⟩ := hrel
    have hsz := hb.size
    have hLl := HLl.out
    obtain ⟨wo, rfl⟩ : ∃ wo : World, wo = wr := ⟨_, rfl⟩
    by_cases hkn : k + 1 < C.length
    · have hkn' : (k : Int) + 1 < (C.length : Int) := by omega
      have hkn2 : (k : Int) < (C.length : Int) := by omega
      obtain ⟨b1, o1, x, rfl, _, hbhi, hx0, hcell⟩ := Text.at (hR1.same hsame) (show k < C.length by omega)
      have hx := (HLk.out k hkn).trans hx0
      have Hx := Lib.hid hx
      have Hn := Lib.hid (fun (h9 : stepG (fun l => some (numS l)) d x = none) => show v = none by rw [Hv.out, parseG_none hx Hp.out h9]; rfl)
      have Hnx := Lib.hid (fun (d' : List PHunk) (h9 : stepG (fun l => some (numS l)) d x = some d') => show parseG (fun l => some (numS l)) [] (L.take (k + 1)) = some d' by rw [parseG_next hx Hp.out, h9])
      have hxs := HCs.out x (List.mem_of_getElem? hx0)
      clear hx hx0 hLl
      by_cases hx0 : x = []
      · have hxb : (x == []) = true := by simpa using hx0
        have Hr := Lib.hid (Hn.out (by rw [hx0]; rfl))
        clear hx0
        go_wp2
        go_ret2
        exact ⟨none, 0, 0, by rw [Hr.out]; rfl, hb, by rw [Hr.out]; exact Fresh.nil _ _ _ _ _⟩
      · obtain ⟨b, l, hbl⟩ : ∃ b l, x = b :: l := by cases x with
          | nil => exact absurd rfl hx0
          | cons b l => exact ⟨b, l, rfl⟩
        have hxb : (x == []) = false := by simpa using hx0
        have hxl : 0 < x.length := by rw [hbl]; simp
        have hbb := byte_at (s := x) (k := 0) (c := b) (by rw [hbl]; rfl) (by rw [size_mk]; exact hxl)
        have hb256 : b.toNat < 256 := b.toNat_lt
        obtain ⟨q1, q2⟩ := cut_one x hxl
        have hdl : x.drop 1 = l := by rw [hbl]; rfl
        rw [hdl] at q1 q2
        have hls : l.length ≤ x.length := by rw [hbl]; simp
        have Hbl := Lib.hid hbl
        clear hx0 hbl hdl
        by_cases h64 : b = 64
        ·
          have hb64 : ((b.toNat : Int) == 64) = true := by rw [h64]; rfl
          have hn64 : (b.toNat : Int) = 64 := by rw [h64]; rfl
          obtain ⟨a, ha⟩ : ∃ a, a = numS l := ⟨_, rfl⟩
          have Hpn := Lib.hid (Hnx.out (d ++ [⟨a, [], []⟩]) (by rw [Hbl.out, stepG, if_pos h64, ha]; rfl))
          have hab := numS_bound l
          rw [← ha] at hab
          have hnum := spec_l1Num_any l wo (by omega)
          rw [← ha] at hnum
          clear h64 ha
          go_wp2_with fail
          refine Calls.mono hnum ?_
          rintro e w5 ⟨rfl, rfl⟩
          clear hnum
          obtain ⟨F, hO, hN, hFk⟩ := hH
          obtain ⟨us, G, hrow, ho, hFe⟩ := Own.rowF hO
          go_wp2_with (at_builtin; go_loud (refine wpList_append_src _ rfl (.tmp 34) (.tmp 39) _ rfl 0 32 ih _ 3 56 Tryd.underlying22 gi0 gi1 gi2 gi3 rfl (by omega) _ d.length us rfl (hrow.alloc _) _ 1 1 [.int .i64 a, .slice none 0 0, .slice none 0 0] rfl (Src.lit wo 32 [.int .i64 a, .slice none 0 0, .slice none 0 0] 3 1 rfl) (one3 a) (by unfold maxLen; omega) (by omega) (Nat.zero_le _) ?_))
          intro A7 c7 w7 hown7 hg7 hat7
          obtain ⟨F1, hO1, hN1, hF1, hon⟩ := Hunks.snocF hrow ho hFe hN hown7 hg7 hat7
          have hFw : ∀ k ∈ F, w.heap.size ≤ k := fun q m => by rcases hFk q m with e | e <;> omega
          have hb7 : Below w.heap.size w w7 := hb.trans (hon.below hFw hsz)
          have hsame7 : Same w0.heap.size w1.heap.size w1 w7 := hsame.trans (hon.same (fun q m => by rcases hFk q m with e | e <;> omega) hsw)
          have hs7 := hon.size
          have hl8 : (d ++ [(⟨a, [], []⟩ : PHunk)]).length = d.length + 1 := by simp
          have HH8 := Lib.hid (show HunksIn w7 w.heap.size w1.heap.size (d ++ [(⟨a, [], []⟩ : PHunk)]) (.slice A7 (d.length + 1) c7) from ⟨F1, hO1, hN1, fun q m => by
            rcases hF1 q m with e | e
            · exact hFk q e
            · exact .inr (by omega)⟩)
          have Hsm8 := Lib.hid (show ∀ h ∈ d ++ [(⟨a, [], []⟩ : PHunk)], h.less.length ≤ k + 1 ∧ h.more.length ≤ k + 1 from fun h hh => by
            rcases List.mem_append.1 hh with hh | hh
            · have := Hsm.out h hh; omega
            · simp at hh; subst hh; simp)
          have Hoh8 := Lib.hid (show ∀ h ∈ d ++ [(⟨a, [], []⟩ : PHunk)], okHunk h from fun h hh => by
            rcases List.mem_append.1 hh with hh | hh
            · exact Hoh.out h hh
            · simp at hh; subst hh; exact ⟨⟨by show -9223372036854775808 ≤ a; omega, by show a ≤ 9223372036854775807; omega⟩, fun s hs => (by cases hs), fun s hs => (by cases hs)⟩)
          have Hl8 := Lib.hid hl8
          have hs71 : w1.heap.size ≤ w7.heap.size := by omega
          clear hown7 hg7 hat7 hO1 hN1 hF1 hon hO hN hFk hrow ho hFe hFw hl8
          go_wp2
          go_roundw
          case rel => exact ⟨k + 1, d ++ [⟨a, [], []⟩], A7, c7, by have := HLl.out; omega, by rw [Hl8.out], by go_num, Hpn, Hsm8, Hoh8, by rw [Hl8.out]; omega, by rw [Hl8.out]; exact HH8.out, hsame7, hb7, hs71⟩
          case measure => simp [intOf]; omega
        · have hb64 : ((b.toNat : Int) == 64) = false := byte_ne (c := 64) h64
          have hn64 : ¬ ((b.toNat : Int) = 64) := byte_nat (c := 64) h64
          by_cases hd0 : d = []
          · have Hr := Lib.hid (Hn.out (by rw [Hbl.out, stepG, if_neg h64, if_pos hd0]))
            subst hd0
            clear h64
            by_cases h45 : (b.toNat : Int) = 45
            · have hb45 : ((b.toNat : Int) == 45) = true := by simpa using h45
              have hb43 : ((b.toNat : Int) == 43) = false := by rw [h45]; rfl
              have hn43 : ¬ (b.toNat : Int) = 43 := by omega
              go_wp2
              go_ret2
              exact ⟨none, 0, 0, by rw [Hr.out]; rfl, hb, by rw [Hr.out]; exact Fresh.nil _ _ _ _ _⟩
            · have hb45 : ((b.toNat : Int) == 45) = false := by simpa using h45
              by_cases h43 : (b.toNat : Int) = 43
              · have hb43 : ((b.toNat : Int) == 43) = true := by simpa using h43
                go_wp2
                go_ret2
                exact ⟨none, 0, 0, by rw [Hr.out]; rfl, hb, by rw [Hr.out]; exact Fresh.nil _ _ _ _ _⟩
              · have hb43 : ((b.toNat : Int) == 43) = false := by simpa using h43
                go_wp2
                go_ret2
                exact ⟨none, 0, 0, by rw [Hr.out]; rfl, hb, by rw [Hr.out]; exact Fresh.nil _ _ _ _ _⟩
          · obtain ⟨d', h, rfl⟩ : ∃ d' h, d = d' ++ [h] := ⟨d.dropLast, d.getLast hd0, (List.dropLast_concat_getLast hd0).symm⟩
            obtain ⟨m, hm⟩ : ∃ m, m = d'.length := ⟨_, rfl⟩
            have hdl : (d' ++ [h]).length = m + 1 := by rw [hm]; simp
            have Hm := Lib.hid hm
            have Hst := Lib.hid (show stepG (fun l => some (numS l)) (d' ++ [h]) x = if b = 45 then some (d' ++ [{ h with less := h.less ++ [l] }]) else if b = 43 then some (d' ++ [{ h with more := h.more ++ [l] }]) else none by rw [Hbl.out, stepG, if_neg h64, if_neg hd0, lessL_snoc, moreL_snoc])
            obtain ⟨hsm1, hsm2⟩ := Hsm.out h (by simp)
            rw [hdl] at hH hdk ⊢
            have hm0 : (0 : Int) ≤ (m : Int) := by omega
            clear hd0 h64 hdl hm
            by_cases h45 : b = 45
            ·
              have hb45 : ((b.toNat : Int) == 45) = true := by rw [h45]; rfl
              have hn45 : (b.toNat : Int) = 45 := by rw [h45]; rfl
              have Hpn := Lib.hid (Hnx.out _ (by rw [Hst.out, if_pos h45]))
              clear h45
              obtain ⟨g, A1, c1, rfl, -, hgB, hgl, d1, f1, hr1, hg1⟩ := Hunks.cellAt (j := 1) (l := h.less) (hH.fresh (by omega)) (by omega) rfl
              rw [← Hm.out] at d1 f1
              have hm8 : m ≤ 1048577 := by omega
              have hm1 : (m : Int) < (m : Int) + 1 := by omega
              have hr1W : (wo.alloc (.cells #[.string ⟨l.toArray⟩] 9)).drew.ownsRow 0 9 1 (.slice A1 h.less.length c1) h.less.length (h.less.map fun s => .string ⟨s.toArray⟩) := hr1.alloc (.cells #[.string ⟨l.toArray⟩] 9)
              have hSW : Src (wo.alloc (.cells #[.string ⟨l.toArray⟩] 9)).drew 1 (some ⟨wo.heap.size, 0, none⟩) 1 [.string ⟨l.toArray⟩] := (Src.lit wo 9 [.string ⟨l.toArray⟩] 1 1 rfl)
              obtain ⟨W, hW⟩ : ∃ W : World, W = (wo.alloc (.cells #[.string ⟨l.toArray⟩] 9)).drew := ⟨_, rfl⟩
              have hbW : Below wo.heap.size wo W := by rw [hW]; exact below_drewN ((Below.refl _ _).alloc (Nat.le_refl _) _) 1
              have hsW := hbW.size
              have hgW : g < W.heap.size := by omega
              have HHW := Lib.hid (hH.keep hbW)
              have d1W : W.cell? ⟨g, m * 3 + 1, none⟩ = some (.slice A1 h.less.length c1) := (hbW.cell (p := ⟨g, m * 3 + 1, none⟩) hgl).trans d1
              have d1a : ∀ o, (wo.alloc o).drew.cell? ⟨g, m * 3 + 1, none⟩ = some (.slice A1 h.less.length c1) := fun o => ((below_drewN ((Below.refl wo.heap.size wo).alloc (Nat.le_refl _) o) 1).cell (p := ⟨g, m * 3 + 1, none⟩) hgl).trans d1
              have f1W : W.frozen? ⟨g, m * 3 + 1, none⟩ = false := (hbW.frozen (p := ⟨g, m * 3 + 1, none⟩) hgl).trans f1
              have hg1' : some g ≠ (Value.slice A1 h.less.length c1).ownBlock := fun e => hg1 e.symm
              have hk8 : h.less.length ≤ 1048577 := by omega
              have HsW := Lib.hid (hsame.trans (Same.of_below hbW hsw))
              have HbW := Lib.hid (hb.trans (hbW.mono hsz))
              have hw1W : w1.heap.size ≤ W.heap.size := by omega
              rw [← hW] at hr1W hSW
              have HW := Lib.hid hW
              clear hH hr1 hb hsame hR1 hbW hW
              go_wp2
              go_region_law (first
                | (rw [← HW.out]
                   refine step_append_src _ (by rfl) (.tmp 59) (.tmp 62) _ (by rfl) 0 9 is _ 1 16 Tryd.underlying28 si0 si1 si2 si3 (by rfl) (by omega) _ h.less.length _ (by rfl) hr1W _ 1 1 [.string ⟨l.toArray⟩] (by rfl) hSW (one1 l) (by unfold maxLen; omega) (by omega) (Nat.zero_le _) ?_
                   intro A5 c5 w5 hown5 hg5 hat5
                   change World.grownBy _ w5 (Value.slice A1 h.less.length c1).ownBlock at hg5
                   change _ = (Value.slice A1 h.less.length c1).ownBlock ∨ _ at hat5
                   have d15 : w5.cell? ⟨g, m * 3 + 1, none⟩ = some (.slice A1 h.less.length c1) := (hg5.cell_far ⟨g, m * 3 + 1, none⟩ hgW hg1').trans d1W
                   have f15 : w5.frozen? ⟨g, m * 3 + 1, none⟩ = false := (hg5.frozen_far ⟨g, m * 3 + 1, none⟩ hgW hg1').trans f1W))
              all_goals
                obtain ⟨F, hO, hN, hFk⟩ := HHW.out
                have hmore := Hunks.moreF (j := 1) (x := h) (x' := { h with less := h.less ++ [l] }) hO hN (by omega) (by rw [← Hm.out]; exact d1W) rfl rfl hown5 (by simp) hg5 hat5
                rw [← Hm.out] at hmore
                obtain ⟨F9, hO9, hN9, hF9, hon⟩ := hmore
                have hFw : ∀ k ∈ F, w.heap.size ≤ k := fun q mm => by rcases hFk q mm with e | e <;> omega
                have Hb9 := Lib.hid (HbW.out.trans (hon.below hFw (by omega)))
                have Hs9 := Lib.hid (HsW.out.trans (hon.same (fun q mm => by rcases hFk q mm with e | e <;> omega) hw1W))
                have Hz9 := Lib.hid (Nat.le_trans hw1W hon.size)
                have HH9 := Lib.hid (show HunksIn (w5.setCell ⟨g, m * 3 + 1, none⟩ (.slice A5 (h.less.length + 1) c5)) w.heap.size w1.heap.size (d' ++ [{ h with less := h.less ++ [l] }]) (.slice (some ⟨g, 0, none⟩) (m + 1) c') from ⟨F9, hO9, hN9, fun q mm => by
                  rcases hF9 q mm with e | e
                  · exact hFk q e
                  · exact .inr (by omega)⟩)
                have hl9 : (d' ++ [{ h with less := h.less ++ [l] }]).length = m + 1 := by rw [Hm.out]; simp
                have Hl9 := Lib.hid hl9
                have Hsm9 := Lib.hid (show ∀ y ∈ d' ++ [{ h with less := h.less ++ [l] }], y.less.length ≤ k + 1 ∧ y.more.length ≤ k + 1 from fun y hy => by
                  rcases List.mem_append.1 hy with hy | hy
                  · have := Hsm.out y (List.mem_append_left _ hy); omega
                  · simp at hy
                    subst hy
                    simp
                    omega)
                have Hoh9 := Lib.hid (show ∀ y ∈ d' ++ [{ h with less := h.less ++ [l] }], okHunk y from fun y hy => by
                  rcases List.mem_append.1 hy with hy | hy
                  · exact Hoh.out y (List.mem_append_left _ hy)
                  · simp at hy
                    subst hy
                    obtain ⟨o1, o2, o3⟩ := Hoh.out h (by simp)
                    exact ⟨o1, fun s hs => (List.mem_append.1 hs).elim (o2 s) (fun e => by simp at e; subst e; omega), o3⟩)
                clear hO9 hN9 hF9 hon hO hN hFk hFw hl9 hown5 hg5 hat5 d15 f15
                go_wp2
                go_roundw
                case rel => exact ⟨k + 1, d' ++ [{ h with less := h.less ++ [l] }], _, c', by have := HLl.out; omega, by rw [Hl9.out], by go_num, Hpn, Hsm9, Hoh9, by rw [Hl9.out]; omega, by rw [Hl9.out]; exact HH9.out, Hs9.out, Hb9.out, Hz9.out⟩
                case measure => simp [intOf]; omega
            · have hb45 : ((b.toNat : Int) == 45) = false := byte_ne (c := 45) h45
              have hn45 : ¬ ((b.toNat : Int) = 45) := byte_nat (c := 45) h45
              by_cases h43 : b = 43
              ·
                have hb43 : ((b.toNat : Int) == 43) = true := by rw [h43]; rfl
                have hn43 : (b.toNat : Int) = 43 := by rw [h43]; rfl
                have Hpn := Lib.hid (Hnx.out _ (by rw [Hst.out, if_neg h45, if_pos h43]))
                clear h43 h45
                obtain ⟨g, A1, c1, rfl, -, hgB, hgl, d1, f1, hr1, hg1⟩ := Hunks.cellAt (j := 2) (l := h.more) (hH.fresh (by omega)) (by omega) rfl
                rw [← Hm.out] at d1 f1
                have hm8 : m ≤ 1048577 := by omega
                have hm1 : (m : Int) < (m : Int) + 1 := by omega
                have hr1W : (wo.alloc (.cells #[.string ⟨l.toArray⟩] 9)).drew.ownsRow 0 9 1 (.slice A1 h.more.length c1) h.more.length (h.more.map fun s => .string ⟨s.toArray⟩) := hr1.alloc (.cells #[.string ⟨l.toArray⟩] 9)
                have hSW : Src (wo.alloc (.cells #[.string ⟨l.toArray⟩] 9)).drew 1 (some ⟨wo.heap.size, 0, none⟩) 1 [.string ⟨l.toArray⟩] := (Src.lit wo 9 [.string ⟨l.toArray⟩] 1 1 rfl)
                obtain ⟨W, hW⟩ : ∃ W : World, W = (wo.alloc (.cells #[.string ⟨l.toArray⟩] 9)).drew := ⟨_, rfl⟩
                have hbW : Below wo.heap.size wo W := by rw [hW]; exact below_drewN ((Below.refl _ _).alloc (Nat.le_refl _) _) 1
                have hsW := hbW.size
                have hgW : g < W.heap.size := by omega
                have HHW := Lib.hid (hH.keep hbW)
                have d1W : W.cell? ⟨g, m * 3 + 2, none⟩ = some (.slice A1 h.more.length c1) := (hbW.cell (p := ⟨g, m * 3 + 2, none⟩) hgl).trans d1
                have d1a : ∀ o, (wo.alloc o).drew.cell? ⟨g, m * 3 + 2, none⟩ = some (.slice A1 h.more.length c1) := fun o => ((below_drewN ((Below.refl wo.heap.size wo).alloc (Nat.le_refl _) o) 1).cell (p := ⟨g, m * 3 + 2, none⟩) hgl).trans d1
                have f1W : W.frozen? ⟨g, m * 3 + 2, none⟩ = false := (hbW.frozen (p := ⟨g, m * 3 + 2, none⟩) hgl).trans f1
                have hg1' : some g ≠ (Value.slice A1 h.more.length c1).ownBlock := fun e => hg1 e.symm
                have hk8 : h.more.length ≤ 1048577 := by omega
                have HsW := Lib.hid (hsame.trans (Same.of_below hbW hsw))
                have HbW := Lib.hid (hb.trans (hbW.mono hsz))
                have hw1W : w1.heap.size ≤ W.heap.size := by omega
                rw [← hW] at hr1W hSW
                have HW := Lib.hid hW
                clear hH hr1 hb hsame hR1 hbW hW
                go_wp2
                go_region_law (first
                  | (rw [← HW.out]
                     refine step_append_src _ (by rfl) (.tmp 84) (.tmp 87) _ (by rfl) 0 9 is _ 1 16 Tryd.underlying28 si0 si1 si2 si3 (by rfl) (by omega) _ h.more.length _ (by rfl) hr1W _ 1 1 [.string ⟨l.toArray⟩] (by rfl) hSW (one1 l) (by unfold maxLen; omega) (by omega) (Nat.zero_le _) ?_
                     intro A5 c5 w5 hown5 hg5 hat5
                     change World.grownBy _ w5 (Value.slice A1 h.more.length c1).ownBlock at hg5
                     change _ = (Value.slice A1 h.more.length c1).ownBlock ∨ _ at hat5
                     have d15 : w5.cell? ⟨g, m * 3 + 2, none⟩ = some (.slice A1 h.more.length c1) := (hg5.cell_far ⟨g, m * 3 + 2, none⟩ hgW hg1').trans d1W
                     have f15 : w5.frozen? ⟨g, m * 3 + 2, none⟩ = false := (hg5.frozen_far ⟨g, m * 3 + 2, none⟩ hgW hg1').trans f1W))
                all_goals
                  obtain ⟨F, hO, hN, hFk⟩ := HHW.out
                  have hmore := Hunks.moreF (j := 2) (x := h) (x' := { h with more := h.more ++ [l] }) hO hN (by omega) (by rw [← Hm.out]; exact d1W) rfl rfl hown5 (by simp) hg5 hat5
                  rw [← Hm.out] at hmore
                  obtain ⟨F9, hO9, hN9, hF9, hon⟩ := hmore
                  have hFw : ∀ k ∈ F, w.heap.size ≤ k := fun q mm => by rcases hFk q mm with e | e <;> omega
                  have Hb9 := Lib.hid (HbW.out.trans (hon.below hFw (by omega)))
                  have Hs9 := Lib.hid (HsW.out.trans (hon.same (fun q mm => by rcases hFk q mm with e | e <;> omega) hw1W))
                  have Hz9 := Lib.hid (Nat.le_trans hw1W hon.size)
                  have HH9 := Lib.hid (show HunksIn (w5.setCell ⟨g, m * 3 + 2, none⟩ (.slice A5 (h.more.length + 1) c5)) w.heap.size w1.heap.size (d' ++ [{ h with more := h.more ++ [l] }]) (.slice (some ⟨g, 0, none⟩) (m + 1) c') from ⟨F9, hO9, hN9, fun q mm => by
                    rcases hF9 q mm with e | e
                    · exact hFk q e
                    · exact .inr (by omega)⟩)
                  have hl9 : (d' ++ [{ h with more := h.more ++ [l] }]).length = m + 1 := by rw [Hm.out]; simp
                  have Hl9 := Lib.hid hl9
                  have Hsm9 := Lib.hid (show ∀ y ∈ d' ++ [{ h with more := h.more ++ [l] }], y.less.length ≤ k + 1 ∧ y.more.length ≤ k + 1 from fun y hy => by
                    rcases List.mem_append.1 hy with hy | hy
                    · have := Hsm.out y (List.mem_append_left _ hy); omega
                    · simp at hy
                      subst hy
                      simp
                      omega)
                  have Hoh9 := Lib.hid (show ∀ y ∈ d' ++ [{ h with more := h.more ++ [l] }], okHunk y from fun y hy => by
                    rcases List.mem_append.1 hy with hy | hy
                    · exact Hoh.out y (List.mem_append_left _ hy)
                    · simp at hy
                      subst hy
                      obtain ⟨o1, o2, o3⟩ := Hoh.out h (by simp)
                      exact ⟨o1, o2, fun s hs => (List.mem_append.1 hs).elim (o3 s) (fun e => by simp at e; subst e; omega)⟩)
                  clear hO9 hN9 hF9 hon hO hN hFk hFw hl9 hown5 hg5 hat5 d15 f15
                  go_wp2
                  go_roundw
                  case rel => exact ⟨k + 1, d' ++ [{ h with more := h.more ++ [l] }], _, c', by have := HLl.out; omega, by rw [Hl9.out], by go_num, Hpn, Hsm9, Hoh9, by rw [Hl9.out]; omega, by rw [Hl9.out]; exact HH9.out, Hs9.out, Hb9.out, Hz9.out⟩
                  case measure => simp [intOf]; omega
              · have hb43 : ((b.toNat : Int) == 43) = false := byte_ne (c := 43) h43
                have hn43 : ¬ ((b.toNat : Int) = 43) := byte_nat (c := 43) h43
                have Hr := Lib.hid (Hn.out (by rw [Hst.out, if_neg h45, if_neg h43]))
                clear h45 h43
                go_wp2
                go_ret2
                exact ⟨none, 0, 0, by rw [Hr.out]; rfl, hb, by rw [Hr.out]; exact Fresh.nil _ _ _ _ _⟩
    ·
      have hkL : k = L.length := by omega
      rw [hkL, List.take_length] at Hp
      have Hvd := Lib.hid (show v = if okG s d = true then some d else none by rw [Hv.out, Hp.out]; rfl)
      have hkn' : ¬ (k : Int) + 1 < (C.length : Int) := by omega
      have hk170 : k ≤ 170 := by omega
      have hF := hH.fresh (by omega)
      have hok := spec_l2Ok_any A' d.length c' d wo _ _ hF.rep Hoh.out
      obtain ⟨pk, hpk⟩ : ∃ pk, pk = patchOk d := ⟨_, rfl⟩
      rw [← hpk] at hok
      have Hpk := Lib.hid hpk
      clear hpk hkn hk hH hLl hR1 hsame hkL
      go_wp2_with fail
      refine Calls.mono hok ?_
      rintro e w6 ⟨rfl, mm, hw6⟩
      have hb6 : Below wo.heap.size wo w6 := by rw [hw6]; exact below_drewN (Below.refl _ _) _
      have hs6 := hb6.size
      have hbz := hb.trans (hb6.mono hsz)
      have hF6 := (hF.keep hb6 (Nat.le_refl _)).mono (Nat.le_refl _) hs6
      clear hok hw6
      cases pk with
      | false =>
        have Hr := Lib.hid (show v = none by rw [Hvd.out, if_neg (by unfold okG; rw [← Hpk.out]; simp)])
        go_wp2
        go_ret2
        exact ⟨none, 0, 0, by rw [Hr.out]; rfl, hbz, by rw [Hr.out]; exact Fresh.nil _ _ _ _ _⟩
      | true =>
        have hput := spec_l2Put_any A' d.length c' d w6 _ _ hF6.rep (Nat.le_refl _) Hpk.out.symm
        obtain ⟨T, hT⟩ : ∃ T, T = wPatch d := ⟨_, rfl⟩
        rw [← hT] at hput
        have HT := Lib.hid hT
        clear hT
        by_cases he : T = s
        · have hes : (T == s) = true := by simpa using he
          have Hr := Lib.hid (show v = some d by rw [Hvd.out, if_pos (by unfold okG; rw [← Hpk.out, ← HT.out]; simp [he])])
          clear he
          go_wp2_with fail
          refine Calls.mono hput ?_
          rintro e w7 ⟨rfl, hb7⟩
          have hbf := hbz.trans (hb7.mono hbz.size)
          have HF7 := Lib.hid ((hF6.keep hb7 (Nat.le_refl _)).mono (Nat.le_refl _) hb7.size)
          clear hput hF6 hF hb7
          go_wp2
          go_ret2
          exact ⟨_, _, _, by rw [Hr.out]; rfl, hbf, by rw [Hr.out]; exact HF7.out⟩
        · have hes : (T == s) = false := by simpa using he
          have Hr := Lib.hid (show v = none by rw [Hvd.out, if_neg (by unfold okG; rw [← Hpk.out, ← HT.out]; simp [he])])
          clear he
          go_wp2_with fail
          refine Calls.mono hput ?_
          rintro e w7 ⟨rfl, hb7⟩
          have hbf := hbz.trans (hb7.mono hbz.size)
          clear hput hF6 hF hb7
          go_wp2
          go_ret2
          exact ⟨none, 0, 0, by rw [Hr.out]; rfl, hbf, by rw [Hr.out]; exact Fresh.nil _ _ _ _ _⟩
end Go.Proofs.YteofafgleojmhaaDoor
