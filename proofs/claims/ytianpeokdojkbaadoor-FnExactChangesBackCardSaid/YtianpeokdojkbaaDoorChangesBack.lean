/- Walk: the program's ChangesBack. UNDER WAY. -/
import Derived.Test.YtianpeokdojkbaaDoorChangeBackPlain
import Derived.Test.YtianpeokdojkbaaDoorChangesOk
import Derived.Deep.RegionHeld3
namespace Go.Proofs.YtianpeokdojkbaaDoor
open Go.RowKit

theorem changeOk_text {c : PChange} (h : changeOk c = true) (hk : c.kind = 1 ∨ c.kind = 2) : textOk c.text = true := by
  unfold changeOk at h
  rw [Bool.and_eq_true, if_pos hk] at h
  simp only [Bool.and_eq_true] at h
  exact h.2.1

theorem changeOk_edit {c : PChange} (h : changeOk c = true) (hk : c.kind = 3) : patchOk c.patch = true ∧ 0 < c.patch.length := by
  unfold changeOk at h
  rw [Bool.and_eq_true, if_neg (by omega), if_pos hk] at h
  simp only [Bool.and_eq_true, decide_eq_true_eq] at h
  exact ⟨h.2.2.2.2, h.2.2.2.1⟩

theorem changeOk_kind {c : PChange} (h : changeOk c = true) (h1 : ¬ c.kind = 1) (h2 : ¬ c.kind = 2) (h3 : ¬ c.kind = 3) : c.kind = 4 := by
  unfold changeOk at h
  rw [Bool.and_eq_true, if_neg (by omega), if_neg h3] at h
  by_cases h4 : c.kind = 4
  · exact h4
  · rw [if_neg h4] at h
    exact absurd h.2 (by simp)

set_option maxRecDepth 100000 in
set_option maxHeartbeats 2000000 in
theorem impl_ChangesBack_any (A : Option Addr) (n c : Nat) (xs : List PChange) (w : World) (lo hi : Nat) (h : Rep w lo hi (encChanges xs) (.slice A n c)) (hh : hi ≤ w.heap.size) (hz : szChanges xs ≤ 1048576) :
    Calls Tryd.prog 17 #[.slice A n c] w fun e w' => ∃ A n c, e = .returned (.slice A n c) ∧ Below w.heap.size w w' ∧ Fresh w' w.heap.size w'.heap.size (encChanges (changesBack xs)) (.slice A n c) := by
  have hl := Changes.n h
  obtain ⟨hc, hm⟩ := Changes.cap h
  subst hl
  have hput : changesBack xs = if changesOk xs then xs.map backC else [] := rfl
  have hall : changesOk xs = true → xs.length ≤ 16 ∧ ∀ x ∈ xs, changeOk x = true := fun h9 => by
    unfold changesOk at h9
    simp only [Bool.and_eq_true, decide_eq_true_eq, List.all_eq_true] at h9
    exact ⟨h9.1, h9.2.1⟩
  obtain ⟨P, hP⟩ : ∃ P, P = changesBack xs := ⟨_, rfl⟩
  rw [← hP] at hput ⊢
  obtain ⟨b, hbk⟩ : ∃ b, b = changesOk xs := ⟨_, rfl⟩
  have hcall := impl_ChangesOk_any A xs.length c xs w lo hi h hh hz
  rw [← hbk] at hput hcall hall
  clear hP hbk
  have Hput := Lib.hid hput
  have Hall := Lib.hid hall
  obtain ⟨ih, gi0, gi1, gi2, gi3⟩ := info_parts Tryd.infoChange
  clear hput hall
  go_enter Tryd.func17, Tryd.ntmps17
  go_wp2_with fail
  refine Calls.mono hcall ?_
  rintro e w1 ⟨rfl, hb1⟩
  have hs1 := hb1.size
  clear hcall
  cases b with
  | false =>
    go_wp2
    go_ret
    exact ⟨none, 0, 0, rfl, hb1, by rw [Hput.out]; exact Fresh.nil _ _ _ _ _⟩
  | true =>
    obtain ⟨h16, hok⟩ := Hall.out rfl
    have Hok := Lib.hid hok
    clear hok
    go_wp2
    go_loopw [3, 12] (fun t i wr => ∃ (k : Nat) (A' : Option Addr) (n' c' : Nat), k ≤ xs.length ∧ i = .int .i64 k ∧ t = .slice A' n' c' ∧ Hid (Fresh wr w1.heap.size wr.heap.size (encChanges ((xs.take k).map backC)) (.slice A' n' c')) ∧ Below w1.heap.size w1 wr) (fun _ i _ => xs.length - (intOf i).toNat)
    case atStart => exact ⟨0, none, 0, 0, Nat.zero_le _, rfl, rfl, Lib.hid (Fresh.nil _ _ _ _ _), Below.refl _ _⟩
    case round =>
      obtain ⟨k, A', n', c', hk, rfl, rfl, hF, hb⟩ := hrel
      have hsz := hb.size
      by_cases hkn : k < xs.length
      · have hkn' : (k : Int) < (xs.length : Int) := by omega
        obtain ⟨b1, o1, x, rfl, _, hbhi, hx, A3, n3, c3, A4, n4, c4, d0, d1, d2, d3, r3, d4, r4⟩ := Changes.at ((h.keep hb1 hh).keep hb (Nat.le_trans hh hs1)) hkn
        have hnx := backC_next hx
        have hxo := Hok.out x (List.mem_of_getElem? hx)
        obtain ⟨done, hdone⟩ : ∃ done, done = (xs.take k).map backC := ⟨_, rfl⟩
        have hdl : done.length ≤ 16 := by rw [hdone, List.length_map, List.length_take]; omega
        rw [← hdone] at hF hnx
        clear hdone
        obtain ⟨wo, rfl⟩ : ∃ wo : World, wo = wr := ⟨_, rfl⟩
        obtain ⟨kind, path, dest, text, patch⟩ := x
        dsimp only at d0 d1 d2 d3 d4 r3 r4
        have l3 := Text.n r3
        have l4 := Hunks.n r4
        subst l3 l4
        have Hnx := Lib.hid hnx
        have Hxo := Lib.hid hxo
        clear hx hnx hxo
        by_cases k1 : kind = 1
        · subst k1
          go_wp2_with fail
          obtain ⟨W, hW⟩ : ∃ W, W = (wo.alloc (.cells #[.int .i64 1, .string ⟨path.toArray⟩, .string ⟨dest.toArray⟩, .slice A3 text.length c3, .slice A4 patch.length c4] 51)).alloc (.cells #[.int .i64 1, .string ⟨path.toArray⟩, .string ⟨#[]⟩, .slice none 0 0, .slice none 0 0] 51) := ⟨_, rfl⟩
          rw [← hW]
          have hbr : Below wo.heap.size wo W := by rw [hW]; exact (((Below.refl _ _).alloc (Nat.le_refl _) _).alloc (by simp) _)
          have hWs : W.heap.size = wo.heap.size + 2 := by rw [hW]; simp
          have p0 : W.cell? ⟨wo.heap.size + 1, 0, none⟩ = some (.int .i64 1) := by rw [hW]; simp [go_sem]
          have p1 : W.cell? ⟨wo.heap.size + 1, 1, none⟩ = some (.string ⟨path.toArray⟩) := by rw [hW]; simp [go_sem]
          have p2 : W.cell? ⟨wo.heap.size + 1, 2, none⟩ = some (.string ⟨#[]⟩) := by rw [hW]; simp [go_sem]
          have p3 : W.cell? ⟨wo.heap.size + 1, 3, none⟩ = some (.slice none 0 0) := by rw [hW]; simp [go_sem]
          have p4 : W.cell? ⟨wo.heap.size + 1, 4, none⟩ = some (.slice none 0 0) := by rw [hW]; simp [go_sem]
          have f0 : W.frozen? ⟨wo.heap.size + 1, 0, none⟩ = false := by rw [hW]; simp [go_sem]
          have f3 : W.frozen? ⟨wo.heap.size + 1, 3, none⟩ = false := by rw [hW]; simp [go_sem]
          have hho : hi ≤ wo.heap.size := Nat.le_trans (Nat.le_trans hh hs1) hsz
          have r3W := r3.keep hbr hho
          clear hW d0 d1 d2 d3 d4
          refine Calls.mono (impl_copyText_any A3 text.length c3 text W lo hi r3W (by omega) (by have h9 := textOk_len10 (changeOk_text Hxo.out (by simp)); dsimp only at h9; omega)) ?_
          rintro e w5 ⟨A5, n5, c5, rfl, hb5, hf5⟩
          have hlt6 : wo.heap.size + 1 < W.heap.size := by omega
          have q0 := (hb5.cell (p := ⟨wo.heap.size + 1, 0, none⟩) hlt6).trans p0
          have q1 := (hb5.cell (p := ⟨wo.heap.size + 1, 1, none⟩) hlt6).trans p1
          have q2 := (hb5.cell (p := ⟨wo.heap.size + 1, 2, none⟩) hlt6).trans p2
          have q3 := (hb5.cell (p := ⟨wo.heap.size + 1, 3, none⟩) hlt6).trans p3
          have q4 := (hb5.cell (p := ⟨wo.heap.size + 1, 4, none⟩) hlt6).trans p4
          have z0 := (hb5.frozen (p := ⟨wo.heap.size + 1, 0, none⟩) hlt6).trans f0
          have z3 := (hb5.frozen (p := ⟨wo.heap.size + 1, 3, none⟩) hlt6).trans f3
          clear p0 p1 p2 p3 p4 f0 f3
          obtain ⟨us, G, hown, ho, hnodup, hbd0⟩ := hF.out.row_of
          have hnd := Changes.n hF.out.rep
          subst hnd
          have hs5 := hb5.size
          obtain ⟨WF, hWF⟩ : ∃ WF, WF = (w5.setCell ⟨wo.heap.size + 1, 0, none⟩ (.int .i64 2)).setCell ⟨wo.heap.size + 1, 3, none⟩ (.slice A5 n5 c5) := ⟨_, rfl⟩
          have hb05 : Below wo.heap.size wo w5 := hbr.trans (hb5.mono (by omega))
          have hFs : WF.heap.size = w5.heap.size := by rw [hWF]; simp
          have hbF : Below wo.heap.size wo WF := by rw [hWF]; (repeat' (first | with_reducible exact Below.refl _ _ | with_reducible assumption | (with_reducible refine Below.setCell ?_ ?_ _) | (with_reducible refine Below.alloc ?_ ?_ _) | (with_reducible refine below_drewN ?_ _) | (with_reducible refine Below.drew ?_) | omega | (simp; done) | (simp; omega)))
          have hsmF : Same W.heap.size w5.heap.size w5 WF := by rw [hWF]; (repeat' (first | with_reducible exact Same.refl _ _ _ | (with_reducible refine Same.setCell ?_ ?_ _) | omega | (simp; done) | (simp; omega)))
          have hS : Src (WF.alloc (.cells #[.int .i64 2, .string ⟨path.toArray⟩, .string ⟨#[]⟩, .slice A5 n5 c5, .slice none 0 0] 51)) 5 (some ⟨w5.heap.size, 0, none⟩) 1 [.int .i64 2, .string ⟨path.toArray⟩, .string ⟨#[]⟩, .slice A5 n5 c5, .slice none 0 0] := by
            have h9 := Src.lit WF 51 [.int .i64 2, .string ⟨path.toArray⟩, .string ⟨#[]⟩, .slice A5 n5 c5, .slice none 0 0] 5 1 rfl
            rw [hFs] at h9
            exact h9
          have hownF := ownsRow_same (w' := WF) hown (fun q hq => hbF.block q (hown.lt q (by simpa using hq)).2)
          have HWF := Lib.hid hWF
          go_wp2_with (at_builtin; rw [← hWF]; clear hWF; go_loud (refine wpList_append_src _ rfl (.tmp 49) (.tmp 51) _ rfl w1.heap.size 51 ih _ 5 88 Tryd.underlying24 gi0 gi1 gi2 gi3 rfl (by omega) _ _ us rfl (hownF.alloc _) _ 1 1 [.int .i64 2, .string ⟨path.toArray⟩, .string ⟨#[]⟩, .slice A5 n5 c5, .slice none 0 0] rfl hS ?e2 ?e3 ?e4 ?e5 ?_))
          case e2 => intro u hu; simp at hu; rcases hu with rfl | rfl | rfl | rfl | rfl <;> rfl
          case e3 => unfold maxLen; omega
          case e4 => omega
          case e5 => first | omega | (simp; omega)
          intro A7 c7 w7 hown7 hg7 hat7
          have hb7 : Below w1.heap.size w1 w7 := ((hb.trans (hbF.mono hsz)).alloc (by omega) _).grown hg7 (by simp; omega) (fun g hg => (hownF.lt g hg).1)
          have ho7 := Owns.same _ _ _ ho (w' := WF.alloc (.cells #[.int .i64 2, .string ⟨path.toArray⟩, .string ⟨#[]⟩, .slice A5 n5 c5, .slice none 0 0] 51)) (fun q hq => by
            have := hbd0 q (List.mem_append_right _ hq)
            exact (Below.heap_alloc WF _ q (by omega)).trans (hbF.block q this.2))
          have hbd : ∀ q ∈ (Value.slice A' done.length c').ownBlock.toList ++ G, w1.heap.size ≤ q ∧ q < W.heap.size := fun q hq => by have := hbd0 q hq; omega
          have hr5 : Fresh (WF.alloc (.cells #[.int .i64 2, .string ⟨path.toArray⟩, .string ⟨#[]⟩, .slice A5 n5 c5, .slice none 0 0] 51)) W.heap.size w5.heap.size (encText text) (.slice A5 n5 c5) := hf5.same (hsmF.alloc (by omega) _)
          have hnew : FreshL (WF.alloc (.cells #[.int .i64 2, .string ⟨path.toArray⟩, .string ⟨#[]⟩, .slice A5 n5 c5, .slice none 0 0] 51)) W.heap.size w5.heap.size (cChanges (⟨2, path, [], text, []⟩ : PChange)) [.int .i64 2, .string ⟨path.toArray⟩, .string ⟨#[]⟩, .slice A5 n5 c5, .slice none 0 0] :=
            FreshL.plain ⟨rfl, rfl⟩ (FreshL.plain ⟨rfl, rfl⟩ (FreshL.plain ⟨rfl, rfl⟩ (FreshL.cons hr5 (Fresh.one (Fresh.nil _ w5.heap.size w5.heap.size _ _)) hs5 (Nat.le_refl _))))
          have hsz7 : (WF.alloc (.cells #[.int .i64 2, .string ⟨path.toArray⟩, .string ⟨#[]⟩, .slice A5 n5 c5, .slice none 0 0] 51)).heap.size = w5.heap.size + 1 := by simp [hFs]
          rw [← hsz7] at hat7
          have hfin := Fresh.grew ho7 hnodup hbd hnew hown7 hg7 hat7 hs5 (by simp; omega) (by omega)
          have hcons : done.flatMap cChanges ++ cChanges (⟨2, path, [], text, []⟩ : PChange) = (done ++ [(⟨2, path, [], text, []⟩ : PChange)]).flatMap cChanges := by simp
          rw [hcons] at hfin
          have hY : backC ⟨1, path, dest, text, patch⟩ = (⟨2, path, [], text, []⟩ : PChange) := by simp [backC]
          have Hf := Lib.hid (show Fresh w7 w1.heap.size w7.heap.size (encChanges ((xs.take (k + 1)).map backC)) (.slice A7 (done.length + 1) c7) by rw [Hnx.out, hY]; exact hfin)
          clear hfin hcons hnew hr5 hbd ho7 hown7 hg7 hat7 hf5 hS hownF hsmF hbF
          go_wp2
          go_roundw
          case rel => exact ⟨k + 1, _, _, _, by omega, by go_num, rfl, Hf, hb7⟩
          case measure => first | (simp [intOf]; done) | (simp [intOf]; omega)
-- KIND2
        · by_cases k2 : kind = 2
          · subst k2
            go_wp2_with fail
            obtain ⟨W, hW⟩ : ∃ W, W = (wo.alloc (.cells #[.int .i64 2, .string ⟨path.toArray⟩, .string ⟨dest.toArray⟩, .slice A3 text.length c3, .slice A4 patch.length c4] 51)).alloc (.cells #[.int .i64 2, .string ⟨path.toArray⟩, .string ⟨#[]⟩, .slice none 0 0, .slice none 0 0] 51) := ⟨_, rfl⟩
            rw [← hW]
            have hbr : Below wo.heap.size wo W := by rw [hW]; exact (((Below.refl _ _).alloc (Nat.le_refl _) _).alloc (by simp) _)
            have hWs : W.heap.size = wo.heap.size + 2 := by rw [hW]; simp
            have p0 : W.cell? ⟨wo.heap.size + 1, 0, none⟩ = some (.int .i64 2) := by rw [hW]; simp [go_sem]
            have p1 : W.cell? ⟨wo.heap.size + 1, 1, none⟩ = some (.string ⟨path.toArray⟩) := by rw [hW]; simp [go_sem]
            have p2 : W.cell? ⟨wo.heap.size + 1, 2, none⟩ = some (.string ⟨#[]⟩) := by rw [hW]; simp [go_sem]
            have p3 : W.cell? ⟨wo.heap.size + 1, 3, none⟩ = some (.slice none 0 0) := by rw [hW]; simp [go_sem]
            have p4 : W.cell? ⟨wo.heap.size + 1, 4, none⟩ = some (.slice none 0 0) := by rw [hW]; simp [go_sem]
            have f0 : W.frozen? ⟨wo.heap.size + 1, 0, none⟩ = false := by rw [hW]; simp [go_sem]
            have f3 : W.frozen? ⟨wo.heap.size + 1, 3, none⟩ = false := by rw [hW]; simp [go_sem]
            have hho : hi ≤ wo.heap.size := Nat.le_trans (Nat.le_trans hh hs1) hsz
            have r3W := r3.keep hbr hho
            clear hW d0 d1 d2 d3 d4
            refine Calls.mono (impl_copyText_any A3 text.length c3 text W lo hi r3W (by omega) (by have h9 := textOk_len10 (changeOk_text Hxo.out (by simp)); dsimp only at h9; omega)) ?_
            rintro e w5 ⟨A5, n5, c5, rfl, hb5, hf5⟩
            have hlt6 : wo.heap.size + 1 < W.heap.size := by omega
            have q0 := (hb5.cell (p := ⟨wo.heap.size + 1, 0, none⟩) hlt6).trans p0
            have q1 := (hb5.cell (p := ⟨wo.heap.size + 1, 1, none⟩) hlt6).trans p1
            have q2 := (hb5.cell (p := ⟨wo.heap.size + 1, 2, none⟩) hlt6).trans p2
            have q3 := (hb5.cell (p := ⟨wo.heap.size + 1, 3, none⟩) hlt6).trans p3
            have q4 := (hb5.cell (p := ⟨wo.heap.size + 1, 4, none⟩) hlt6).trans p4
            have z0 := (hb5.frozen (p := ⟨wo.heap.size + 1, 0, none⟩) hlt6).trans f0
            have z3 := (hb5.frozen (p := ⟨wo.heap.size + 1, 3, none⟩) hlt6).trans f3
            clear p0 p1 p2 p3 p4 f0 f3
            obtain ⟨us, G, hown, ho, hnodup, hbd0⟩ := hF.out.row_of
            have hnd := Changes.n hF.out.rep
            subst hnd
            have hs5 := hb5.size
            obtain ⟨WF, hWF⟩ : ∃ WF, WF = (w5.setCell ⟨wo.heap.size + 1, 0, none⟩ (.int .i64 1)).setCell ⟨wo.heap.size + 1, 3, none⟩ (.slice A5 n5 c5) := ⟨_, rfl⟩
            have hb05 : Below wo.heap.size wo w5 := hbr.trans (hb5.mono (by omega))
            have hFs : WF.heap.size = w5.heap.size := by rw [hWF]; simp
            have hbF : Below wo.heap.size wo WF := by rw [hWF]; (repeat' (first | with_reducible exact Below.refl _ _ | with_reducible assumption | (with_reducible refine Below.setCell ?_ ?_ _) | (with_reducible refine Below.alloc ?_ ?_ _) | (with_reducible refine below_drewN ?_ _) | (with_reducible refine Below.drew ?_) | omega | (simp; done) | (simp; omega)))
            have hsmF : Same W.heap.size w5.heap.size w5 WF := by rw [hWF]; (repeat' (first | with_reducible exact Same.refl _ _ _ | (with_reducible refine Same.setCell ?_ ?_ _) | omega | (simp; done) | (simp; omega)))
            have hS : Src (WF.alloc (.cells #[.int .i64 1, .string ⟨path.toArray⟩, .string ⟨#[]⟩, .slice A5 n5 c5, .slice none 0 0] 51)) 5 (some ⟨w5.heap.size, 0, none⟩) 1 [.int .i64 1, .string ⟨path.toArray⟩, .string ⟨#[]⟩, .slice A5 n5 c5, .slice none 0 0] := by
              have h9 := Src.lit WF 51 [.int .i64 1, .string ⟨path.toArray⟩, .string ⟨#[]⟩, .slice A5 n5 c5, .slice none 0 0] 5 1 rfl
              rw [hFs] at h9
              exact h9
            have hownF := ownsRow_same (w' := WF) hown (fun q hq => hbF.block q (hown.lt q (by simpa using hq)).2)
            have HWF := Lib.hid hWF
            go_wp2_with (at_builtin; rw [← hWF]; clear hWF; go_loud (refine wpList_append_src _ rfl (.tmp 49) (.tmp 51) _ rfl w1.heap.size 51 ih _ 5 88 Tryd.underlying24 gi0 gi1 gi2 gi3 rfl (by omega) _ _ us rfl (hownF.alloc _) _ 1 1 [.int .i64 1, .string ⟨path.toArray⟩, .string ⟨#[]⟩, .slice A5 n5 c5, .slice none 0 0] rfl hS ?e2 ?e3 ?e4 ?e5 ?_))
            case e2 => intro u hu; simp at hu; rcases hu with rfl | rfl | rfl | rfl | rfl <;> rfl
            case e3 => unfold maxLen; omega
            case e4 => omega
            case e5 => first | omega | (simp; omega)
            intro A7 c7 w7 hown7 hg7 hat7
            have hb7 : Below w1.heap.size w1 w7 := ((hb.trans (hbF.mono hsz)).alloc (by omega) _).grown hg7 (by simp; omega) (fun g hg => (hownF.lt g hg).1)
            have ho7 := Owns.same _ _ _ ho (w' := WF.alloc (.cells #[.int .i64 1, .string ⟨path.toArray⟩, .string ⟨#[]⟩, .slice A5 n5 c5, .slice none 0 0] 51)) (fun q hq => by
              have := hbd0 q (List.mem_append_right _ hq)
              exact (Below.heap_alloc WF _ q (by omega)).trans (hbF.block q this.2))
            have hbd : ∀ q ∈ (Value.slice A' done.length c').ownBlock.toList ++ G, w1.heap.size ≤ q ∧ q < W.heap.size := fun q hq => by have := hbd0 q hq; omega
            have hr5 : Fresh (WF.alloc (.cells #[.int .i64 1, .string ⟨path.toArray⟩, .string ⟨#[]⟩, .slice A5 n5 c5, .slice none 0 0] 51)) W.heap.size w5.heap.size (encText text) (.slice A5 n5 c5) := hf5.same (hsmF.alloc (by omega) _)
            have hnew : FreshL (WF.alloc (.cells #[.int .i64 1, .string ⟨path.toArray⟩, .string ⟨#[]⟩, .slice A5 n5 c5, .slice none 0 0] 51)) W.heap.size w5.heap.size (cChanges (⟨1, path, [], text, []⟩ : PChange)) [.int .i64 1, .string ⟨path.toArray⟩, .string ⟨#[]⟩, .slice A5 n5 c5, .slice none 0 0] :=
              FreshL.plain ⟨rfl, rfl⟩ (FreshL.plain ⟨rfl, rfl⟩ (FreshL.plain ⟨rfl, rfl⟩ (FreshL.cons hr5 (Fresh.one (Fresh.nil _ w5.heap.size w5.heap.size _ _)) hs5 (Nat.le_refl _))))
            have hsz7 : (WF.alloc (.cells #[.int .i64 1, .string ⟨path.toArray⟩, .string ⟨#[]⟩, .slice A5 n5 c5, .slice none 0 0] 51)).heap.size = w5.heap.size + 1 := by simp [hFs]
            rw [← hsz7] at hat7
            have hfin := Fresh.grew ho7 hnodup hbd hnew hown7 hg7 hat7 hs5 (by simp; omega) (by omega)
            have hcons : done.flatMap cChanges ++ cChanges (⟨1, path, [], text, []⟩ : PChange) = (done ++ [(⟨1, path, [], text, []⟩ : PChange)]).flatMap cChanges := by simp
            rw [hcons] at hfin
            have hY : backC ⟨2, path, dest, text, patch⟩ = (⟨1, path, [], text, []⟩ : PChange) := by simp [backC]
            have Hf := Lib.hid (show Fresh w7 w1.heap.size w7.heap.size (encChanges ((xs.take (k + 1)).map backC)) (.slice A7 (done.length + 1) c7) by rw [Hnx.out, hY]; exact hfin)
            clear hfin hcons hnew hr5 hbd ho7 hown7 hg7 hat7 hf5 hS hownF hsmF hbF
            go_wp2
            go_roundw
            case rel => exact ⟨k + 1, _, _, _, by omega, by go_num, rfl, Hf, hb7⟩
            case measure => first | (simp [intOf]; done) | (simp [intOf]; omega)
          · by_cases k3 : kind = 3
            · subst k3
              go_wp2_with fail
              obtain ⟨W, hW⟩ : ∃ W, W = (wo.alloc (.cells #[.int .i64 3, .string ⟨path.toArray⟩, .string ⟨dest.toArray⟩, .slice A3 text.length c3, .slice A4 patch.length c4] 51)).alloc (.cells #[.int .i64 3, .string ⟨path.toArray⟩, .string ⟨#[]⟩, .slice none 0 0, .slice none 0 0] 51) := ⟨_, rfl⟩
              rw [← hW]
              have hbr : Below wo.heap.size wo W := by rw [hW]; exact (((Below.refl _ _).alloc (Nat.le_refl _) _).alloc (by simp) _)
              have hWs : W.heap.size = wo.heap.size + 2 := by rw [hW]; simp
              have p0 : W.cell? ⟨wo.heap.size + 1, 0, none⟩ = some (.int .i64 3) := by rw [hW]; simp [go_sem]
              have p1 : W.cell? ⟨wo.heap.size + 1, 1, none⟩ = some (.string ⟨path.toArray⟩) := by rw [hW]; simp [go_sem]
              have p2 : W.cell? ⟨wo.heap.size + 1, 2, none⟩ = some (.string ⟨#[]⟩) := by rw [hW]; simp [go_sem]
              have p3 : W.cell? ⟨wo.heap.size + 1, 3, none⟩ = some (.slice none 0 0) := by rw [hW]; simp [go_sem]
              have p4 : W.cell? ⟨wo.heap.size + 1, 4, none⟩ = some (.slice none 0 0) := by rw [hW]; simp [go_sem]
              have f0 : W.frozen? ⟨wo.heap.size + 1, 0, none⟩ = false := by rw [hW]; simp [go_sem]
              have f3 : W.frozen? ⟨wo.heap.size + 1, 4, none⟩ = false := by rw [hW]; simp [go_sem]
              have hho : hi ≤ wo.heap.size := Nat.le_trans (Nat.le_trans hh hs1) hsz
              have r3W := r4.keep hbr hho
              clear hW d0 d1 d2 d3 d4
              obtain ⟨hxa, hxb⟩ := changeOk_edit Hxo.out rfl
              refine Calls.mono (impl_back_any A4 patch.length c4 patch W lo hi r3W (by omega) (hunkOk_of_patchOk hxa) (patchOk_len hxa)) ?_
              rintro e w5 ⟨A5, n5, c5, rfl, hb5, hf5⟩
              have hlt6 : wo.heap.size + 1 < W.heap.size := by omega
              have q0 := (hb5.cell (p := ⟨wo.heap.size + 1, 0, none⟩) hlt6).trans p0
              have q1 := (hb5.cell (p := ⟨wo.heap.size + 1, 1, none⟩) hlt6).trans p1
              have q2 := (hb5.cell (p := ⟨wo.heap.size + 1, 2, none⟩) hlt6).trans p2
              have q3 := (hb5.cell (p := ⟨wo.heap.size + 1, 3, none⟩) hlt6).trans p3
              have q4 := (hb5.cell (p := ⟨wo.heap.size + 1, 4, none⟩) hlt6).trans p4
              have z0 := (hb5.frozen (p := ⟨wo.heap.size + 1, 0, none⟩) hlt6).trans f0
              have z3 := (hb5.frozen (p := ⟨wo.heap.size + 1, 4, none⟩) hlt6).trans f3
              clear p0 p1 p2 p3 p4 f0 f3
              obtain ⟨us, G, hown, ho, hnodup, hbd0⟩ := hF.out.row_of
              have hnd := Changes.n hF.out.rep
              subst hnd
              have hs5 := hb5.size
              obtain ⟨WF, hWF⟩ : ∃ WF, WF = w5.setCell ⟨wo.heap.size + 1, 4, none⟩ (.slice A5 n5 c5) := ⟨_, rfl⟩
              have hb05 : Below wo.heap.size wo w5 := hbr.trans (hb5.mono (by omega))
              have hFs : WF.heap.size = w5.heap.size := by rw [hWF]; simp
              have hbF : Below wo.heap.size wo WF := by rw [hWF]; (repeat' (first | with_reducible exact Below.refl _ _ | with_reducible assumption | (with_reducible refine Below.setCell ?_ ?_ _) | (with_reducible refine Below.alloc ?_ ?_ _) | (with_reducible refine below_drewN ?_ _) | (with_reducible refine Below.drew ?_) | omega | (simp; done) | (simp; omega)))
              have hsmF : Same W.heap.size w5.heap.size w5 WF := by rw [hWF]; (repeat' (first | with_reducible exact Same.refl _ _ _ | (with_reducible refine Same.setCell ?_ ?_ _) | omega | (simp; done) | (simp; omega)))
              have hS : Src (WF.alloc (.cells #[.int .i64 3, .string ⟨path.toArray⟩, .string ⟨#[]⟩, .slice none 0 0, .slice A5 n5 c5] 51)) 5 (some ⟨w5.heap.size, 0, none⟩) 1 [.int .i64 3, .string ⟨path.toArray⟩, .string ⟨#[]⟩, .slice none 0 0, .slice A5 n5 c5] := by
                have h9 := Src.lit WF 51 [.int .i64 3, .string ⟨path.toArray⟩, .string ⟨#[]⟩, .slice none 0 0, .slice A5 n5 c5] 5 1 rfl
                rw [hFs] at h9
                exact h9
              have hownF := ownsRow_same (w' := WF) hown (fun q hq => hbF.block q (hown.lt q (by simpa using hq)).2)
              have HWF := Lib.hid hWF
              go_wp2_with (at_builtin; rw [← hWF]; clear hWF; go_loud (refine wpList_append_src _ rfl (.tmp 49) (.tmp 51) _ rfl w1.heap.size 51 ih _ 5 88 Tryd.underlying24 gi0 gi1 gi2 gi3 rfl (by omega) _ _ us rfl (hownF.alloc _) _ 1 1 [.int .i64 3, .string ⟨path.toArray⟩, .string ⟨#[]⟩, .slice none 0 0, .slice A5 n5 c5] rfl hS ?e2 ?e3 ?e4 ?e5 ?_))
              case e2 => intro u hu; simp at hu; rcases hu with rfl | rfl | rfl | rfl | rfl <;> rfl
              case e3 => unfold maxLen; omega
              case e4 => omega
              case e5 => first | omega | (simp; omega)
              intro A7 c7 w7 hown7 hg7 hat7
              have hb7 : Below w1.heap.size w1 w7 := ((hb.trans (hbF.mono hsz)).alloc (by omega) _).grown hg7 (by simp; omega) (fun g hg => (hownF.lt g hg).1)
              have ho7 := Owns.same _ _ _ ho (w' := WF.alloc (.cells #[.int .i64 3, .string ⟨path.toArray⟩, .string ⟨#[]⟩, .slice none 0 0, .slice A5 n5 c5] 51)) (fun q hq => by
                have := hbd0 q (List.mem_append_right _ hq)
                exact (Below.heap_alloc WF _ q (by omega)).trans (hbF.block q this.2))
              have hbd : ∀ q ∈ (Value.slice A' done.length c').ownBlock.toList ++ G, w1.heap.size ≤ q ∧ q < W.heap.size := fun q hq => by have := hbd0 q hq; omega
              have hr5 : Fresh (WF.alloc (.cells #[.int .i64 3, .string ⟨path.toArray⟩, .string ⟨#[]⟩, .slice none 0 0, .slice A5 n5 c5] 51)) W.heap.size w5.heap.size (encHunks (backFrom patch 0)) (.slice A5 n5 c5) := hf5.same (hsmF.alloc (by omega) _)
              have hnew : FreshL (WF.alloc (.cells #[.int .i64 3, .string ⟨path.toArray⟩, .string ⟨#[]⟩, .slice none 0 0, .slice A5 n5 c5] 51)) W.heap.size w5.heap.size (cChanges (⟨3, path, [], [], backFrom patch 0⟩ : PChange)) [.int .i64 3, .string ⟨path.toArray⟩, .string ⟨#[]⟩, .slice none 0 0, .slice A5 n5 c5] :=
                FreshL.plain ⟨rfl, rfl⟩ (FreshL.plain ⟨rfl, rfl⟩ (FreshL.plain ⟨rfl, rfl⟩ (FreshL.cons (Fresh.nil _ W.heap.size W.heap.size _ _) (Fresh.one hr5) (Nat.le_refl _) hs5)))
              have hsz7 : (WF.alloc (.cells #[.int .i64 3, .string ⟨path.toArray⟩, .string ⟨#[]⟩, .slice none 0 0, .slice A5 n5 c5] 51)).heap.size = w5.heap.size + 1 := by simp [hFs]
              rw [← hsz7] at hat7
              have hfin := Fresh.grew ho7 hnodup hbd hnew hown7 hg7 hat7 hs5 (by simp; omega) (by omega)
              have hcons : done.flatMap cChanges ++ cChanges (⟨3, path, [], [], backFrom patch 0⟩ : PChange) = (done ++ [(⟨3, path, [], [], backFrom patch 0⟩ : PChange)]).flatMap cChanges := by simp
              rw [hcons] at hfin
              have hY : backC ⟨3, path, dest, text, patch⟩ = (⟨3, path, [], [], backFrom patch 0⟩ : PChange) := by simp [backC]
              have Hf := Lib.hid (show Fresh w7 w1.heap.size w7.heap.size (encChanges ((xs.take (k + 1)).map backC)) (.slice A7 (done.length + 1) c7) by rw [Hnx.out, hY]; exact hfin)
              clear hfin hcons hnew hr5 hbd ho7 hown7 hg7 hat7 hf5 hS hownF hsmF hbF
              go_wp2
              go_roundw
              case rel => exact ⟨k + 1, _, _, _, by omega, by go_num, rfl, Hf, hb7⟩
              case measure => first | (simp [intOf]; done) | (simp [intOf]; omega)
            · have k4 : kind = 4 := changeOk_kind Hxo.out k1 k2 k3
              subst k4
              go_wp2
              obtain ⟨W, hW⟩ : ∃ W, W = (wo.alloc (.cells #[.int .i64 4, .string ⟨path.toArray⟩, .string ⟨dest.toArray⟩, .slice A3 text.length c3, .slice A4 patch.length c4] 51)).alloc (.cells #[.int .i64 4, .string ⟨path.toArray⟩, .string ⟨#[]⟩, .slice none 0 0, .slice none 0 0] 51) := ⟨_, rfl⟩
              rw [← hW]
              have hbr : Below wo.heap.size wo W := by rw [hW]; exact (((Below.refl _ _).alloc (Nat.le_refl _) _).alloc (by simp) _)
              have hWs : W.heap.size = wo.heap.size + 2 := by rw [hW]; simp
              have e1 : W.cell? ⟨wo.heap.size, 1, none⟩ = some (.string ⟨path.toArray⟩) := by rw [hW]; simp [go_sem]
              have e2 : W.cell? ⟨wo.heap.size, 2, none⟩ = some (.string ⟨dest.toArray⟩) := by rw [hW]; simp [go_sem]
              have p0 : W.cell? ⟨wo.heap.size + 1, 0, none⟩ = some (.int .i64 4) := by rw [hW]; simp [go_sem]
              have p1 : W.cell? ⟨wo.heap.size + 1, 1, none⟩ = some (.string ⟨path.toArray⟩) := by rw [hW]; simp [go_sem]
              have p2 : W.cell? ⟨wo.heap.size + 1, 2, none⟩ = some (.string ⟨#[]⟩) := by rw [hW]; simp [go_sem]
              have p3 : W.cell? ⟨wo.heap.size + 1, 3, none⟩ = some (.slice none 0 0) := by rw [hW]; simp [go_sem]
              have p4 : W.cell? ⟨wo.heap.size + 1, 4, none⟩ = some (.slice none 0 0) := by rw [hW]; simp [go_sem]
              have f1 : W.frozen? ⟨wo.heap.size + 1, 1, none⟩ = false := by rw [hW]; simp [go_sem]
              have f2 : W.frozen? ⟨wo.heap.size + 1, 2, none⟩ = false := by rw [hW]; simp [go_sem]
              clear hW d0 d1 d2 d3 d4
              go_region
              all_goals
                obtain ⟨us, G, hown, ho, hnodup, hbd0⟩ := hF.out.row_of
                have hnd := Changes.n hF.out.rep
                subst hnd
                obtain ⟨WF, hWF⟩ : ∃ WF, WF = (W.setCell ⟨wo.heap.size + 1, 1, none⟩ (.string ⟨dest.toArray⟩)).setCell ⟨wo.heap.size + 1, 2, none⟩ (.string ⟨path.toArray⟩) := ⟨_, rfl⟩
                have hFs : WF.heap.size = W.heap.size := by rw [hWF]; simp
                have hbF : Below wo.heap.size wo WF := by rw [hWF]; (repeat' (first | with_reducible exact Below.refl _ _ | with_reducible assumption | (with_reducible refine Below.setCell ?_ ?_ _) | (with_reducible refine Below.alloc ?_ ?_ _) | (with_reducible refine below_drewN ?_ _) | (with_reducible refine Below.drew ?_) | omega | (simp; done) | (simp; omega)))
                have hS : Src (WF.alloc (.cells #[.int .i64 4, .string ⟨dest.toArray⟩, .string ⟨path.toArray⟩, .slice none 0 0, .slice none 0 0] 51)).drew 5 (some ⟨wo.heap.size + 2, 0, none⟩) 1 [.int .i64 4, .string ⟨dest.toArray⟩, .string ⟨path.toArray⟩, .slice none 0 0, .slice none 0 0] := by
                  have h9 := Src.lit WF 51 [.int .i64 4, .string ⟨dest.toArray⟩, .string ⟨path.toArray⟩, .slice none 0 0, .slice none 0 0] 5 1 rfl
                  rw [hFs, hWs] at h9
                  exact h9
                have hownF := ownsRow_same (w' := WF) hown (fun q hq => hbF.block q (hown.lt q (by simpa using hq)).2)
                have HWF := Lib.hid hWF
                go_wp2_with (at_builtin; rw [← hWF]; clear hWF; go_loud (refine wpList_append_src _ rfl (.tmp 49) (.tmp 51) _ rfl w1.heap.size 51 ih _ 5 88 Tryd.underlying24 gi0 gi1 gi2 gi3 rfl (by omega) _ _ us rfl (show (WF.alloc (.cells #[.int .i64 4, .string ⟨dest.toArray⟩, .string ⟨path.toArray⟩, .slice none 0 0, .slice none 0 0] 51)).drew.ownsRow _ _ _ _ _ _ from hownF.alloc _) _ 1 1 [.int .i64 4, .string ⟨dest.toArray⟩, .string ⟨path.toArray⟩, .slice none 0 0, .slice none 0 0] rfl hS ?e2 ?e3 ?e4 ?e5 ?_))
                case e2 => intro u hu; simp at hu; rcases hu with rfl | rfl | rfl | rfl | rfl <;> rfl
                case e3 => unfold maxLen; omega
                case e4 => omega
                case e5 => first | omega | (simp; omega)
                intro A7 c7 w7 hown7 hg7 hat7
                have hb7 : Below w1.heap.size w1 w7 := (((hb.trans (hbF.mono hsz)).alloc (by omega) _).drew).grown hg7 (by simp; omega) (fun g hg => (hownF.lt g hg).1)
                have ho7 := Owns.same _ _ _ ho (w' := (WF.alloc (.cells #[.int .i64 4, .string ⟨dest.toArray⟩, .string ⟨path.toArray⟩, .slice none 0 0, .slice none 0 0] 51)).drew) (fun q hq => by
                  have := hbd0 q (List.mem_append_right _ hq)
                  exact (Below.heap_alloc WF _ q (by omega)).trans (hbF.block q this.2))
                have hbd : ∀ q ∈ (Value.slice A' done.length c').ownBlock.toList ++ G, w1.heap.size ≤ q ∧ q < W.heap.size := fun q hq => by have := hbd0 q hq; omega
                have hnew : FreshL (WF.alloc (.cells #[.int .i64 4, .string ⟨dest.toArray⟩, .string ⟨path.toArray⟩, .slice none 0 0, .slice none 0 0] 51)).drew W.heap.size W.heap.size (cChanges (⟨4, dest, path, [], []⟩ : PChange)) [.int .i64 4, .string ⟨dest.toArray⟩, .string ⟨path.toArray⟩, .slice none 0 0, .slice none 0 0] :=
                  FreshL.plain ⟨rfl, rfl⟩ (FreshL.plain ⟨rfl, rfl⟩ (FreshL.plain ⟨rfl, rfl⟩ (FreshL.cons (Fresh.nil _ W.heap.size W.heap.size _ _) (Fresh.one (Fresh.nil _ W.heap.size W.heap.size _ _)) (Nat.le_refl _) (Nat.le_refl _))))
                have hsz7 : (WF.alloc (.cells #[.int .i64 4, .string ⟨dest.toArray⟩, .string ⟨path.toArray⟩, .slice none 0 0, .slice none 0 0] 51)).drew.heap.size = W.heap.size + 1 := by simp [hFs]
                replace hat7 : (Value.slice A7 (done.length + 1) c7).ownBlock = (Value.slice A' done.length c').ownBlock ∨ (Value.slice A7 (done.length + 1) c7).ownBlock = some (WF.alloc (.cells #[.int .i64 4, .string ⟨dest.toArray⟩, .string ⟨path.toArray⟩, .slice none 0 0, .slice none 0 0] 51)).drew.heap.size := hat7.imp id (fun e => e.trans (by rw [hsz7]; congr 1; omega))
                have hfin := Fresh.grew ho7 hnodup hbd hnew hown7 hg7 hat7 (Nat.le_refl _) (by simp; omega) (by omega)
                have hcons : done.flatMap cChanges ++ cChanges (⟨4, dest, path, [], []⟩ : PChange) = (done ++ [(⟨4, dest, path, [], []⟩ : PChange)]).flatMap cChanges := by simp
                rw [hcons] at hfin
                have hY : backC ⟨4, path, dest, text, patch⟩ = (⟨4, dest, path, [], []⟩ : PChange) := by simp [backC]
                have Hf := Lib.hid (show Fresh w7 w1.heap.size w7.heap.size (encChanges ((xs.take (k + 1)).map backC)) (.slice A7 (done.length + 1) c7) by rw [Hnx.out, hY]; exact hfin)
                clear hfin hcons hnew hbd ho7 hown7 hg7 hat7 hS hownF hbF
                go_wp2
                go_roundw
                case rel => exact ⟨k + 1, _, _, _, by omega, by go_num, rfl, Hf, hb7⟩
                case measure => first | (simp [intOf]; done) | (simp [intOf]; omega)
      · obtain rfl : k = xs.length := by omega
        have hF2 := hF.out
        rw [List.take_length] at hF2
        have HF2 := Lib.hid (Fresh.mono (lo' := w.heap.size) hF2 hs1 (Nat.le_refl _))
        clear hF hF2
        go_wp2
        go_ret
        exact ⟨_, _, _, rfl, hb1.trans (hb.mono hs1), by rw [Hput.out]; exact HF2.out⟩
end Go.Proofs.YtianpeokdojkbaaDoor
