/- Walk: the program's PatchGet. Printed by wip/mk_get.py. -/
import Derived.Test.YteofafgleojmhaaDoorLines
import Derived.Test.YteofafgleojmhaaDoorHunkOwn
import Derived.Test.YteofafgleojmhaaDoorGetMem
import Derived.Test.YteofafgleojmhaaDoorWrite
import Derived.Test.YteofafgleojmhaaDoorPatchOk2
import Derived.Deep.RegionLaw
namespace Go.Proofs.YteofafgleojmhaaDoor
open Go.RowKit

set_option maxRecDepth 100000 in
set_option maxHeartbeats 4000000 in
theorem impl_PatchGet_any (s : Str) (w : World) (hs : s.length ≤ 1048576) (hG : Globs w) :
    Calls Tryd.prog 5 #[.string ⟨s.toArray⟩] w fun e w' => ∃ A n c, e = .returned (.tuple #[.slice A n c, .bool (patchGet s).isSome]) ∧ Below w.heap.size w w' ∧ Fresh w' w.heap.size w'.heap.size (encHunks ((patchGet s).getD [])) (.slice A n c) := by
  obtain ⟨v, hv⟩ : ∃ v, v = patchGet s := ⟨_, rfl⟩
  rw [← hv]
  have hv2 : v = patchGetI s := by rw [hv, getI_eq]
  obtain ⟨is, si0, si1, si2, si3⟩ := info_parts Tryd.infoStr
  obtain ⟨ih, gi0, gi1, gi2, gi3⟩ := info_parts Tryd.infoHunk
  have hl := impl_linesOf_any s w (by omega)
  have Hls := Lib.hid (linesI_small s)
  obtain ⟨ol, hol⟩ : ∃ ol, ol = linesI s := ⟨_, rfl⟩
  rw [← hol] at hl Hls
  have hvm : v = fromLines s ol := by rw [hv2, hol, getI_lines]
  clear hv hv2 hol
  cases ol with
  | none =>
    have Hv := Lib.hid (show v = none from hvm)
    clear hvm
    go_enter Tryd.func5, Tryd.ntmps5
    go_wp2_with fail
    refine Calls.mono hl ?_
    rintro e w1 ⟨A, n, c, rfl, _, hb1⟩
    clear hl
    simp only [Option.isSome_none]
    go_wp2
    go_ret2
    exact ⟨none, 0, 0, by rw [Hv.out]; rfl, hb1, by rw [Hv.out]; exact Fresh.nil _ _ _ _ _⟩
  | some L =>
    have Hv := Lib.hid (show v = endG s (parseG numI [] L) from hvm)
    obtain ⟨hLn, hLs⟩ := Hls.out L rfl
    have HLs := Lib.hid hLs
    clear hvm Hls hLs
    go_enter Tryd.func5, Tryd.ntmps5
    go_wp2_with fail
    refine Calls.mono hl ?_
    rintro e w1 ⟨A, n, c, rfl, hR0, hb1⟩
    have hR := hR0 L rfl
    have hn := Text.n hR
    obtain ⟨hcc, hcm⟩ := Text.cap hR
    have hs1 := hb1.size
    have hG1 := hG.keep hb1
    subst hn
    clear hl hR0
    simp only [Option.isSome_some]
    go_wp2
    go_loopw [6, 21] (fun t i wr => ∃ (k : Nat) (d : List PHunk) (A' : Option Addr) (c' : Nat), k ≤ L.length ∧ t = .slice A' d.length c' ∧ i = .int .i64 k ∧ Hid (parseG numI [] (L.take k) = some d) ∧ Hid (∀ h ∈ d, h.less.length ≤ k ∧ h.more.length ≤ k) ∧ d.length ≤ k ∧
        Fresh wr w1.heap.size wr.heap.size (encHunks d) (.slice A' d.length c') ∧ Below w1.heap.size w1 wr) (fun _ i _ => L.length - (intOf i).toNat)
    case atStart => exact ⟨0, [], none, 0, Nat.zero_le _, rfl, rfl, Lib.hid rfl, Lib.hid (fun h hh => by cases hh), Nat.le_refl _, Fresh.nil _ _ _ _ _, Below.refl _ _⟩
    case round =>
      obtain ⟨k, d, A', c', hk, rfl, rfl, Hp, Hsm, hdk, hF, hb⟩ := hrel
      have hsz := hb.size
      obtain ⟨wo, rfl⟩ : ∃ wo : World, wo = wr := ⟨_, rfl⟩
      by_cases hkn : k < L.length
      · have hkn' : (k : Int) < (L.length : Int) := by omega
        obtain ⟨b1, o1, x, rfl, _, hbhi, hx, hcell⟩ := Text.at (hR.keep hb (Nat.le_refl _)) hkn
        have Hx := Lib.hid hx
        have Hn := Lib.hid (fun (h9 : stepG numI d x = none) => show v = none by rw [Hv.out, parseG_none hx Hp.out h9]; rfl)
        have Hnx := Lib.hid (fun (d' : List PHunk) (h9 : stepG numI d x = some d') => show parseG numI [] (L.take (k + 1)) = some d' by rw [parseG_next hx Hp.out, h9])
        have hxs := HLs.out x (List.mem_of_getElem? hx)
        clear hx
        by_cases hx0 : x = []
        · have hxb : (x == []) = true := by simpa using hx0
          have Hr := Lib.hid (Hn.out (by rw [hx0]; rfl))
          clear hx0
          go_wp2
          go_ret2
          exact ⟨none, 0, 0, by rw [Hr.out]; rfl, hb1.trans (hb.mono hs1), by rw [Hr.out]; exact Fresh.nil _ _ _ _ _⟩
        · obtain ⟨b, l, hbl⟩ : ∃ b l, x = b :: l := by cases x with
            | nil => exact absurd rfl hx0
            | cons b l => exact ⟨b, l, rfl⟩
          have hxb : (x == []) = false := by simpa using hx0
          have hxl : 0 < x.length := by rw [hbl]; simp
          have hbb := byte_at (s := x) (k := 0) (c := b) (by rw [hbl]; rfl) (by rw [size_mk]; exact hxl)
          have hb256 : b.toNat < 256 := b.toNat_lt
          obtain ⟨q1, q2⟩ := cut_one x hxl
          have hdl : x.drop 1 = l := by rw [hbl]; rfl
          rw [hdl] at q1 q2
          have hls : l.length ≤ x.length := by rw [hbl]; simp
          have Hbl := Lib.hid hbl
          clear hx0 hbl hdl
          by_cases h64 : b = 64
          ·
            have hb64 : ((b.toNat : Int) == 64) = true := by rw [h64]; rfl
            have hst : stepG numI d x = (numI l).map (fun a => d ++ [⟨a, [], []⟩]) := by rw [Hbl.out, stepG, if_pos h64]
            have hnum := impl_number_any l wo (by omega) (hG1.keep hb)
            obtain ⟨o, ho⟩ : ∃ o, o = numI l := ⟨_, rfl⟩
            rw [← ho] at hst hnum
            have Hst := Lib.hid hst
            clear hst ho h64
            go_wp2_with fail
            refine Calls.mono hnum ?_
            rintro e w5 ⟨a, rfl, hao, hb5⟩
            have hs5 := hb5.size
            have hbz := hb.trans (hb5.mono hsz)
            clear hnum
            cases o with
            | none =>
              have Hr := Lib.hid (Hn.out (by rw [Hst.out]; rfl))
              simp only [Option.isSome_none]
              go_wp2
              go_ret2
              exact ⟨none, 0, 0, by rw [Hr.out]; rfl, hb1.trans (hbz.mono hs1), by rw [Hr.out]; exact Fresh.nil _ _ _ _ _⟩
            | some a0 =>
              have ha : a = a0 := hao a0 rfl
              subst ha
              have Hpn := Lib.hid (Hnx.out _ Hst.out)
              simp only [Option.isSome_some]
              have hF5 := (hF.keep hb5 (Nat.le_refl _)).mono (Nat.le_refl _) hs5
              clear hF
              go_wp2_with (at_builtin; go_loud (refine wpList_push rfl (.tmp 52) (.tmp 55) _ rfl w1.heap.size 32 ih _ 3 56 Tryd.underlying22 gi0 gi1 gi2 gi3 rfl (by omega) w5 w5 (d.flatMap cHunks) [] [] A' d.length c' hF5.one (by omega) (Below.refl _ _) [.int .i64 a, .slice none 0 0, .slice none 0 0] (cHunks ⟨a, [], []⟩) (fresh_hunk0 w5 a) rfl rfl rfl _ 1 rfl rfl (one3 a) (by unfold maxLen; omega) (by omega) ?_))
              intro A7 c7 w7 hF7 hb7 _ hz7
              have hF8 := hF7.fst
              rw [show d.flatMap cHunks ++ cHunks (⟨a, [], []⟩ : PHunk) = (d ++ [(⟨a, [], []⟩ : PHunk)]).flatMap cHunks by simp] at hF8
              have hbe := hbz.trans (hb7.mono (Nat.le_refl _))
              have hl8 : (d ++ [(⟨a, [], []⟩ : PHunk)]).length = d.length + 1 := by simp
              have HF8 := Lib.hid (show Fresh w7 w1.heap.size w7.heap.size (encHunks (d ++ [⟨a, [], []⟩])) (.slice A7 (d.length + 1) c7) from hF8)
              have Hsm8 := Lib.hid (show ∀ h ∈ d ++ [(⟨a, [], []⟩ : PHunk)], h.less.length ≤ k + 1 ∧ h.more.length ≤ k + 1 from fun h hh => by
                rcases List.mem_append.1 hh with hh | hh
                · have := Hsm.out h hh; omega
                · simp at hh; subst hh; simp)
              have Hl8 := Lib.hid hl8
              clear hF7 hF8 hb7 hz7 hF5 hl8
              go_wp2
              go_roundw
              case rel => exact ⟨k + 1, d ++ [⟨a, [], []⟩], A7, c7, by omega, by rw [Hl8.out], by go_num, Hpn, Hsm8, by rw [Hl8.out]; omega, by rw [Hl8.out]; exact HF8.out, hbe⟩
              case measure => simp [intOf]; omega
          · have hb64 : ((b.toNat : Int) == 64) = false := byte_ne (c := 64) h64
            have hn64 : ¬ ((b.toNat : Int) = 64) := byte_nat (c := 64) h64
            by_cases hd0 : d = []
            · have Hr := Lib.hid (Hn.out (by rw [Hbl.out, stepG, if_neg h64, if_pos hd0]))
              subst hd0
              clear h64
              go_wp2
              go_ret2
              exact ⟨none, 0, 0, by rw [Hr.out]; rfl, hb1.trans (hb.mono hs1), by rw [Hr.out]; exact Fresh.nil _ _ _ _ _⟩
            · obtain ⟨d', h, rfl⟩ : ∃ d' h, d = d' ++ [h] := ⟨d.dropLast, d.getLast hd0, (List.dropLast_concat_getLast hd0).symm⟩
              obtain ⟨m, hm⟩ : ∃ m, m = d'.length := ⟨_, rfl⟩
              have hdl : (d' ++ [h]).length = m + 1 := by rw [hm]; simp
              have Hm := Lib.hid hm
              have Hst := Lib.hid (show stepG numI (d' ++ [h]) x = if b = 45 then some (d' ++ [{ h with less := h.less ++ [l] }]) else if b = 43 then some (d' ++ [{ h with more := h.more ++ [l] }]) else none by rw [Hbl.out, stepG, if_neg h64, if_neg hd0, lessL_snoc, moreL_snoc])
              obtain ⟨hsm1, hsm2⟩ := Hsm.out h (by simp)
              rw [hdl] at hF hdk ⊢
              have hdb : ((m : Int) + 1 == 0) = false := by rw [beq_eq_false_iff_ne]; omega
              clear hd0 h64 hdl hm
              by_cases h45 : b = 45
              ·
                have hb45 : ((b.toNat : Int) == 45) = true := by rw [h45]; rfl
                have hn45 : (b.toNat : Int) = 45 := by rw [h45]; rfl
                have Hpn := Lib.hid (Hnx.out _ (by rw [Hst.out, if_pos h45]))
                clear h45
                obtain ⟨g, A1, c1, rfl, -, hgB, hgl, d1, f1, hr1, hg1⟩ := Hunks.cellAt (j := 1) (l := h.less) hF (by omega) rfl
                rw [← Hm.out] at d1 f1
                have hm8 : m ≤ 1048577 := by omega
                have hm1 : (m : Int) < (m : Int) + 1 := by omega
                have hr1W : (wo.alloc (.cells #[.string ⟨l.toArray⟩] 9)).drew.ownsRow 0 9 1 (.slice A1 h.less.length c1) h.less.length (h.less.map fun s => .string ⟨s.toArray⟩) := hr1.alloc (.cells #[.string ⟨l.toArray⟩] 9)
                have hSW : Src (wo.alloc (.cells #[.string ⟨l.toArray⟩] 9)).drew 1 (some ⟨wo.heap.size, 0, none⟩) 1 [.string ⟨l.toArray⟩] := (Src.lit wo 9 [.string ⟨l.toArray⟩] 1 1 rfl)
                obtain ⟨W, hW⟩ : ∃ W : World, W = (wo.alloc (.cells #[.string ⟨l.toArray⟩] 9)).drew := ⟨_, rfl⟩
                have hbW : Below wo.heap.size wo W := by rw [hW]; exact below_drewN ((Below.refl _ _).alloc (Nat.le_refl _) _) 1
                have hsW := hbW.size
                have hgW : g < W.heap.size := by omega
                have hFW := (hF.keep hbW (Nat.le_refl _)).mono (Nat.le_refl _) hsW
                have d1W : W.cell? ⟨g, m * 3 + 1, none⟩ = some (.slice A1 h.less.length c1) := (hbW.cell (p := ⟨g, m * 3 + 1, none⟩) hgl).trans d1
                have d1a : ∀ o, (wo.alloc o).drew.cell? ⟨g, m * 3 + 1, none⟩ = some (.slice A1 h.less.length c1) := fun o => ((below_drewN ((Below.refl wo.heap.size wo).alloc (Nat.le_refl _) o) 1).cell (p := ⟨g, m * 3 + 1, none⟩) hgl).trans d1
                have f1W : W.frozen? ⟨g, m * 3 + 1, none⟩ = false := (hbW.frozen (p := ⟨g, m * 3 + 1, none⟩) hgl).trans f1
                have hg1' : some g ≠ (Value.slice A1 h.less.length c1).ownBlock := fun e => hg1 e.symm
                have hk8 : h.less.length ≤ 1048577 := by omega
                have HFW := Lib.hid hFW
                have HbW := Lib.hid (hb.trans (hbW.mono hsz))
                have hw1W : w1.heap.size ≤ W.heap.size := by omega
                rw [← hW] at hr1W hSW
                have HW := Lib.hid hW
                clear hF hr1 hFW hb hR hG1 hbW hW
                go_wp2
                go_region_law (first
                  | (rw [← HW.out]
                     refine step_append_src _ (by rfl) (.tmp 65) (.tmp 68) _ (by rfl) 0 9 is _ 1 16 Tryd.underlying28 si0 si1 si2 si3 (by rfl) (by omega) _ h.less.length _ (by rfl) hr1W _ 1 1 [.string ⟨l.toArray⟩] (by rfl) hSW (one1 l) (by unfold maxLen; omega) (by omega) (Nat.zero_le _) ?_
                     intro A5 c5 w5 hown5 hg5 hat5
                     change World.grownBy _ w5 (Value.slice A1 h.less.length c1).ownBlock at hg5
                     change _ = (Value.slice A1 h.less.length c1).ownBlock ∨ _ at hat5
                     have d15 : w5.cell? ⟨g, m * 3 + 1, none⟩ = some (.slice A1 h.less.length c1) := (hg5.cell_far ⟨g, m * 3 + 1, none⟩ hgW hg1').trans d1W
                     have f15 : w5.frozen? ⟨g, m * 3 + 1, none⟩ = false := (hg5.frozen_far ⟨g, m * 3 + 1, none⟩ hgW hg1').trans f1W))
                all_goals
                  have hmore := Hunks.moreAt (j := 1) (x := h) (x' := { h with less := h.less ++ [l] }) HFW.out (by omega) (by rw [← Hm.out]; exact d1W) rfl rfl hown5 (by simp) hg5 hat5 hw1W
                  rw [← Hm.out] at hmore
                  obtain ⟨hF9, hb9⟩ := hmore
                  have HF9 := Lib.hid hF9
                  have Hb9 := Lib.hid (HbW.out.trans hb9)
                  have hl9 : (d' ++ [{ h with less := h.less ++ [l] }]).length = m + 1 := by rw [Hm.out]; simp
                  have Hl9 := Lib.hid hl9
                  have Hsm9 := Lib.hid (show ∀ y ∈ d' ++ [{ h with less := h.less ++ [l] }], y.less.length ≤ k + 1 ∧ y.more.length ≤ k + 1 from fun y hy => by
                    rcases List.mem_append.1 hy with hy | hy
                    · have := Hsm.out y (List.mem_append_left _ hy); omega
                    · simp at hy
                      subst hy
                      simp
                      omega)
                  clear hF9 hb9 hl9 hown5 hg5 hat5 d15 f15
                  go_wp2
                  go_roundw
                  case rel => exact ⟨k + 1, d' ++ [{ h with less := h.less ++ [l] }], _, c', by omega, by rw [Hl9.out], by go_num, Hpn, Hsm9, by rw [Hl9.out]; omega, by rw [Hl9.out]; exact HF9.out, Hb9.out⟩
                  case measure => simp [intOf]; omega
              · have hb45 : ((b.toNat : Int) == 45) = false := byte_ne (c := 45) h45
                have hn45 : ¬ ((b.toNat : Int) = 45) := byte_nat (c := 45) h45
                by_cases h43 : b = 43
                ·
                  have hb43 : ((b.toNat : Int) == 43) = true := by rw [h43]; rfl
                  have hn43 : (b.toNat : Int) = 43 := by rw [h43]; rfl
                  have Hpn := Lib.hid (Hnx.out _ (by rw [Hst.out, if_neg h45, if_pos h43]))
                  clear h43 h45
                  obtain ⟨g, A1, c1, rfl, -, hgB, hgl, d1, f1, hr1, hg1⟩ := Hunks.cellAt (j := 2) (l := h.more) hF (by omega) rfl
                  rw [← Hm.out] at d1 f1
                  have hm8 : m ≤ 1048577 := by omega
                  have hm1 : (m : Int) < (m : Int) + 1 := by omega
                  have hr1W : (wo.alloc (.cells #[.string ⟨l.toArray⟩] 9)).drew.ownsRow 0 9 1 (.slice A1 h.more.length c1) h.more.length (h.more.map fun s => .string ⟨s.toArray⟩) := hr1.alloc (.cells #[.string ⟨l.toArray⟩] 9)
                  have hSW : Src (wo.alloc (.cells #[.string ⟨l.toArray⟩] 9)).drew 1 (some ⟨wo.heap.size, 0, none⟩) 1 [.string ⟨l.toArray⟩] := (Src.lit wo 9 [.string ⟨l.toArray⟩] 1 1 rfl)
                  obtain ⟨W, hW⟩ : ∃ W : World, W = (wo.alloc (.cells #[.string ⟨l.toArray⟩] 9)).drew := ⟨_, rfl⟩
                  have hbW : Below wo.heap.size wo W := by rw [hW]; exact below_drewN ((Below.refl _ _).alloc (Nat.le_refl _) _) 1
                  have hsW := hbW.size
                  have hgW : g < W.heap.size := by omega
                  have hFW := (hF.keep hbW (Nat.le_refl _)).mono (Nat.le_refl _) hsW
                  have d1W : W.cell? ⟨g, m * 3 + 2, none⟩ = some (.slice A1 h.more.length c1) := (hbW.cell (p := ⟨g, m * 3 + 2, none⟩) hgl).trans d1
                  have d1a : ∀ o, (wo.alloc o).drew.cell? ⟨g, m * 3 + 2, none⟩ = some (.slice A1 h.more.length c1) := fun o => ((below_drewN ((Below.refl wo.heap.size wo).alloc (Nat.le_refl _) o) 1).cell (p := ⟨g, m * 3 + 2, none⟩) hgl).trans d1
                  have f1W : W.frozen? ⟨g, m * 3 + 2, none⟩ = false := (hbW.frozen (p := ⟨g, m * 3 + 2, none⟩) hgl).trans f1
                  have hg1' : some g ≠ (Value.slice A1 h.more.length c1).ownBlock := fun e => hg1 e.symm
                  have hk8 : h.more.length ≤ 1048577 := by omega
                  have HFW := Lib.hid hFW
                  have HbW := Lib.hid (hb.trans (hbW.mono hsz))
                  have hw1W : w1.heap.size ≤ W.heap.size := by omega
                  rw [← hW] at hr1W hSW
                  have HW := Lib.hid hW
                  clear hF hr1 hFW hb hR hG1 hbW hW
                  go_wp2
                  go_region_law (first
                    | (rw [← HW.out]
                       refine step_append_src _ (by rfl) (.tmp 80) (.tmp 83) _ (by rfl) 0 9 is _ 1 16 Tryd.underlying28 si0 si1 si2 si3 (by rfl) (by omega) _ h.more.length _ (by rfl) hr1W _ 1 1 [.string ⟨l.toArray⟩] (by rfl) hSW (one1 l) (by unfold maxLen; omega) (by omega) (Nat.zero_le _) ?_
                       intro A5 c5 w5 hown5 hg5 hat5
                       change World.grownBy _ w5 (Value.slice A1 h.more.length c1).ownBlock at hg5
                       change _ = (Value.slice A1 h.more.length c1).ownBlock ∨ _ at hat5
                       have d15 : w5.cell? ⟨g, m * 3 + 2, none⟩ = some (.slice A1 h.more.length c1) := (hg5.cell_far ⟨g, m * 3 + 2, none⟩ hgW hg1').trans d1W
                       have f15 : w5.frozen? ⟨g, m * 3 + 2, none⟩ = false := (hg5.frozen_far ⟨g, m * 3 + 2, none⟩ hgW hg1').trans f1W))
                  all_goals
                    have hmore := Hunks.moreAt (j := 2) (x := h) (x' := { h with more := h.more ++ [l] }) HFW.out (by omega) (by rw [← Hm.out]; exact d1W) rfl rfl hown5 (by simp) hg5 hat5 hw1W
                    rw [← Hm.out] at hmore
                    obtain ⟨hF9, hb9⟩ := hmore
                    have HF9 := Lib.hid hF9
                    have Hb9 := Lib.hid (HbW.out.trans hb9)
                    have hl9 : (d' ++ [{ h with more := h.more ++ [l] }]).length = m + 1 := by rw [Hm.out]; simp
                    have Hl9 := Lib.hid hl9
                    have Hsm9 := Lib.hid (show ∀ y ∈ d' ++ [{ h with more := h.more ++ [l] }], y.less.length ≤ k + 1 ∧ y.more.length ≤ k + 1 from fun y hy => by
                      rcases List.mem_append.1 hy with hy | hy
                      · have := Hsm.out y (List.mem_append_left _ hy); omega
                      · simp at hy
                        subst hy
                        simp
                        omega)
                    clear hF9 hb9 hl9 hown5 hg5 hat5 d15 f15
                    go_wp2
                    go_roundw
                    case rel => exact ⟨k + 1, d' ++ [{ h with more := h.more ++ [l] }], _, c', by omega, by rw [Hl9.out], by go_num, Hpn, Hsm9, by rw [Hl9.out]; omega, by rw [Hl9.out]; exact HF9.out, Hb9.out⟩
                    case measure => simp [intOf]; omega
                · have hb43 : ((b.toNat : Int) == 43) = false := byte_ne (c := 43) h43
                  have hn43 : ¬ ((b.toNat : Int) = 43) := byte_nat (c := 43) h43
                  have Hr := Lib.hid (Hn.out (by rw [Hst.out, if_neg h45, if_neg h43]))
                  clear h45 h43
                  go_wp2
                  go_ret2
                  exact ⟨none, 0, 0, by rw [Hr.out]; rfl, hb1.trans (hb.mono hs1), by rw [Hr.out]; exact Fresh.nil _ _ _ _ _⟩
      ·
        obtain rfl : k = L.length := by omega
        rw [List.take_length] at Hp
        have Hvd := Lib.hid (show v = if okG s d = true then some d else none by rw [Hv.out, Hp.out]; rfl)
        have hok := impl_PatchOk_any A' d.length c' d wo _ _ hF.rep (Nat.le_refl _)
        obtain ⟨pk, hpk⟩ : ∃ pk, pk = patchOk d := ⟨_, rfl⟩
        rw [← hpk] at hok
        have Hpk := Lib.hid hpk
        clear hpk hkn hk
        go_wp2_with fail
        refine Calls.mono hok ?_
        rintro e w6 ⟨rfl, hb6⟩
        have hs6 := hb6.size
        have hbz := hb1.trans ((hb.trans (hb6.mono hsz)).mono hs1)
        have hF6 := (hF.keep hb6 (Nat.le_refl _)).mono (Nat.le_refl _) hs6
        clear hok
        cases pk with
        | false =>
          have Hr := Lib.hid (show v = none by rw [Hvd.out, if_neg (by unfold okG; rw [← Hpk.out]; simp)])
          go_wp2
          go_ret2
          exact ⟨none, 0, 0, by rw [Hr.out]; rfl, hbz, by rw [Hr.out]; exact Fresh.nil _ _ _ _ _⟩
        | true =>
          have hput := impl_patchPut_any A' d.length c' d w6 _ _ hF6.rep (Nat.le_refl _) Hpk.out.symm
          obtain ⟨T, hT⟩ : ∃ T, T = wPatch d := ⟨_, rfl⟩
          rw [← hT] at hput
          have HT := Lib.hid hT
          clear hT
          by_cases he : T = s
          · have hes : (T == s) = true := by simpa using he
            have Hr := Lib.hid (show v = some d by rw [Hvd.out, if_pos (by unfold okG; rw [← Hpk.out, ← HT.out]; simp [he])])
            have Hlen := Lib.hid he
            clear he
            go_wp2_with fail
            refine Calls.mono hput ?_
            rintro e w7 ⟨rfl, hb7⟩
            have hbf := hbz.trans (hb7.mono hbz.size)
            have HF7 := Lib.hid ((hF6.keep hb7 (Nat.le_refl _)).mono (show w.heap.size ≤ w1.heap.size from hs1) hb7.size)
            clear hput hF6 hF hb7
            go_wp2
            go_ret2
            exact ⟨_, _, _, by rw [Hr.out]; rfl, hbf, by rw [Hr.out]; exact HF7.out⟩
          · have hes : (T == s) = false := by simpa using he
            have Hr := Lib.hid (show v = none by rw [Hvd.out, if_neg (by unfold okG; rw [← Hpk.out, ← HT.out]; simp [he])])
            clear he
            go_wp2_with fail
            refine Calls.mono hput ?_
            rintro e w7 ⟨rfl, hb7⟩
            have hbf := hbz.trans (hb7.mono hbz.size)
            clear hput hF6 hF hb7
            go_wp2
            go_ret2
            exact ⟨none, 0, 0, by rw [Hr.out]; rfl, hbf, by rw [Hr.out]; exact Fresh.nil _ _ _ _ _⟩
end Go.Proofs.YteofafgleojmhaaDoor
