/- Walk: the reference's ChangesBack. -/
import Derived.Test.YtianpeokdojkbaaDoorChangeBox
import Derived.Test.YtianpeokdojkbaaDoorChangesBack
import Derived.Test.YtianpeokdojkbaaDoorSpecChangesOk
import Derived.Deep.DeepCutAuto
import Derived.Deep.RegionLaw
namespace Go.Proofs.YtianpeokdojkbaaDoor
open Go.RowKit

theorem changeOk_notext {c : PChange} (h : changeOk c = true) (k1 : ¬ c.kind = 1) (k2 : ¬ c.kind = 2) : c.text = [] := by
  unfold changeOk at h
  rw [Bool.and_eq_true, if_neg (by omega)] at h
  by_cases k3 : c.kind = 3
  · rw [if_pos k3] at h
    simp only [Bool.and_eq_true, decide_eq_true_eq] at h
    exact List.length_eq_zero_iff.1 h.2.1
  · rw [if_neg k3] at h
    by_cases k4 : c.kind = 4
    · rw [if_pos k4] at h
      simp only [Bool.and_eq_true, decide_eq_true_eq] at h
      exact List.length_eq_zero_iff.1 h.2.1
    · rw [if_neg k4] at h
      exact absurd h.2 (by simp)
/-- A change as the reference builds it ahead of its switch. -/
def preC (x : PChange) : PChange := ⟨x.kind, x.path, [], x.text, []⟩
theorem keep5 {wr W : World} {b o : Nat} {u0 u1 u3 : Value} (hb : Below wr.heap.size wr W) (hl : b < wr.heap.size) (h0 : wr.cell? ⟨b, o, none⟩ = some u0) (h1 : wr.cell? ⟨b, o + 1, none⟩ = some u1) (h3 : wr.cell? ⟨b, o + 3, none⟩ = some u3) :
    W.cell? ⟨b, o, none⟩ = some u0 ∧ W.cell? ⟨b, o + 1, none⟩ = some u1 ∧ W.cell? ⟨b, o + 3, none⟩ = some u3 :=
  ⟨(hb.cell (p := ⟨b, o, none⟩) hl).trans h0, (hb.cell (p := ⟨b, o + 1, none⟩) hl).trans h1, (hb.cell (p := ⟨b, o + 3, none⟩) hl).trans h3⟩
theorem changeOk_texts {c : PChange} (h : changeOk c = true) : c.text.length ≤ 10 := by
  by_cases k1 : c.kind = 1
  · exact textOk_len10 (changeOk_text h (.inl k1))
  · by_cases k2 : c.kind = 2
    · exact textOk_len10 (changeOk_text h (.inr k2))
    · rw [changeOk_notext h k1 k2]
      simp

set_option maxRecDepth 100000 in
set_option maxHeartbeats 4000000 in
theorem spec_ChangesBack_any (A : Option Addr) (n c : Nat) (xs : List PChange) (w : World) (lo hi : Nat) (h : Rep w lo hi (encChanges xs) (.slice A n c)) (hh : hi ≤ w.heap.size) (hz : szChanges xs ≤ 1048576) (hs : ∀ x ∈ xs, okChange x) :
    Calls Tryd.prog 15 #[.slice A n c] w fun e w' => ∃ A n c, e = .returned (.slice A n c) ∧ Below w.heap.size w w' ∧ Fresh w' w.heap.size w'.heap.size (encChanges (changesBack xs)) (.slice A n c) := by
  have hl := Changes.n h
  obtain ⟨hc, hm⟩ := Changes.cap h
  subst hl
  have hput : changesBack xs = if changesOk xs then xs.map backC else [] := rfl
  have hall : changesOk xs = true → xs.length ≤ 16 ∧ ∀ x ∈ xs, changeOk x = true := fun h9 => by
    unfold changesOk at h9
    simp only [Bool.and_eq_true, decide_eq_true_eq, List.all_eq_true] at h9
    exact ⟨h9.1, h9.2.1⟩
  obtain ⟨P, hP⟩ : ∃ P, P = changesBack xs := ⟨_, rfl⟩
  rw [← hP] at hput ⊢
  have hb0 : Below w.heap.size w (w.alloc (.cells #[] 51)) := (Below.refl _ _).alloc (Nat.le_refl _) _
  have hmade : (w.alloc (.cells #[] 51)).ownsRow w.heap.size 51 5 (.slice (some ⟨w.heap.size, 0, none⟩) 0 0) 0 [] := World.ownsRow_made w #[] 0 (Nat.le_refl _) (Nat.zero_le _) rfl
  have hout0 : Fresh (w.alloc (.cells #[] 51)) w.heap.size (w.alloc (.cells #[] 51)).heap.size (encChanges []) (.slice (some ⟨w.heap.size, 0, none⟩) 0 0) := Fresh.of_row hmade (ps := []) ⟨rfl, rfl⟩
  clear hmade
  obtain ⟨b, hbk⟩ : ∃ b, b = changesOk xs := ⟨_, rfl⟩
  have hcall := spec_l5Ok_any A xs.length c xs (w.alloc (.cells #[] 51)) lo hi (h.keep hb0 hh) (by simp; omega) hz hs
  rw [← hbk] at hput hcall hall
  clear hP hbk hs
  have Hput := Lib.hid hput
  have Hall := Lib.hid hall
  obtain ⟨ih, gi0, gi1, gi2, gi3⟩ := info_parts Tryd.infoChange
  obtain ⟨is, si0, si1, si2, si3⟩ := info_parts Tryd.infoStr
  clear hput hall
  go_enter Tryd.func15, Tryd.ntmps15
  go_wp2_with fail
  refine Calls.mono hcall ?_
  rintro e w1 ⟨rfl, hb01⟩
  have hb1 : Below w.heap.size w w1 := hb0.trans (hb01.mono (by simp))
  have hs1 := hb1.size
  have Hout1 := Lib.hid ((hout0.keep hb01 (Nat.le_refl _)).mono (Nat.le_refl _) hb01.size)
  clear hcall hout0 hb0 hb01
  cases b with
  | false =>
    go_wp2
    go_ret
    exact ⟨none, 0, 0, rfl, hb1, by rw [Hput.out]; exact Fresh.nil _ _ _ _ _⟩
  | true =>
    obtain ⟨h16, hok⟩ := Hall.out rfl
    have Hok := Lib.hid hok
    clear hok
    go_wp2
    go_loopw [3, 4] (fun t i wr => ∃ (k : Nat) (A' : Option Addr) (n' c' : Nat), k ≤ xs.length ∧ t = .slice A' n' c' ∧ i = .int .i64 k ∧ Hid (Fresh wr w.heap.size wr.heap.size (encChanges ((xs.take k).map backC)) (.slice A' n' c')) ∧ Below w.heap.size w wr) (fun _ i _ => xs.length - (intOf i).toNat)
    case atStart => exact ⟨0, _, _, _, Nat.zero_le _, rfl, rfl, Hout1, hb1⟩
    case round =>
    clear Hout1
    obtain ⟨k, A', n', c', hk, rfl, rfl, hF, hb⟩ := hrel
    by_cases hkn : k < xs.length
    · have hkn' : (k : Int) < (xs.length : Int) := by omega
      have hsb := hb.size
      obtain ⟨b1, o1, x, rfl, hblo, hbhi, hx, A3, n3, c3, A4, n4, c4, d0, d1, d2, d3, r3, d4, r4⟩ := Changes.at (h.keep hb hh) hkn
      have hnx := backC_next hx
      have hxo := Hok.out x (List.mem_of_getElem? hx)
      obtain ⟨done, hdone⟩ : ∃ done, done = (xs.take k).map backC := ⟨_, rfl⟩
      have hdl : done.length ≤ 16 := by rw [hdone, List.length_map, List.length_take]; omega
      rw [← hdone] at hF hnx
      clear hdone
      obtain ⟨wo, rfl⟩ : ∃ wo : World, wo = wr := ⟨_, rfl⟩
      have htl := changeOk_texts hxo
      obtain ⟨kind, path, dest, text, patch⟩ := x
      dsimp only at d0 d1 d2 d3 d4 r3 r4 htl
      have l3 := Text.n r3
      have l4 := Hunks.n r4
      subst l3 l4
      have Hnx := Lib.hid hnx
      have Hxo := Lib.hid hxo
      have Hf := hF
      clear hx hnx hxo hF
      have hb1lt : b1 < wo.heap.size := by omega
      have hho : hi ≤ wo.heap.size := by omega
      have D0 := Lib.hid d0
      have D1 := Lib.hid d1
      have D2 := Lib.hid d2
      have D3 := Lib.hid d3
      have D4 := Lib.hid d4
      go_upto_region 7 with fail
      go_cut [5] (fun s5 wx => ∃ (g : Nat) (A3' : Option Addr) (c3' : Nat) (F : List Nat), s5 = .pointer (some ⟨g, 0, none⟩) ∧ BoxC wo wx g (preC ⟨kind, path, dest, text, patch⟩) A3' c3' none 0 F)
      case first =>
        go_region_held3 (fun w' => w'.cell? ⟨b1, o1 + k * 5, none⟩ = some (.int .i64 kind) ∧ w'.cell? ⟨b1, o1 + k * 5 + 1, none⟩ = some (.string ⟨path.toArray⟩) ∧ w'.cell? ⟨b1, o1 + k * 5 + 3, none⟩ = some (.slice A3 text.length c3)) ((first | (with_reducible trivial) | (refine ⟨?_, ?_, ?_⟩ <;> with_reducible assumption) | (with_reducible exact keep5 (by (repeat' (first | with_reducible exact Below.refl _ _ | with_reducible assumption | (with_reducible refine Below.setCell ?_ ?_ _) | (with_reducible refine Below.alloc ?_ ?_ _) | (with_reducible refine below_drewN ?_ _) | (with_reducible refine Below.drew ?_) | omega | (simp; done) | (simp; omega)))) hb1lt D0.out D1.out D3.out) | go_keep))  (first
          | (
          refine step_append_src _ (by rfl) (.tmp 26) (.tmp 31) _ (by rfl) wo.heap.size 9 is _ 1 16 Tryd.underlying39 si0 si1 si2 si3 (by rfl) (by omega) (.slice (some ⟨_, 0, none⟩) 0 0) 0 [] (by rfl) (by refine ownsRow_empty (by first | omega | (simp; done) | (simp; omega)) ?_; (repeat (first | (with_reducible assumption) | (with_reducible exact hl_new _ _ _ (by first | omega | (simp; done) | (simp; omega))) | (with_reducible refine hl_drew ?_) | (with_reducible refine hl_old _ ?_)))) A3 text.length c3 _ (by rfl) (Text.src (r3.keep (B := wo.heap.size) (by (repeat' (first | with_reducible exact Below.refl _ _ | with_reducible assumption | (with_reducible refine Below.setCell ?_ ?_ _) | (with_reducible refine Below.alloc ?_ ?_ _) | (with_reducible refine below_drewN ?_ _) | (with_reducible refine Below.drew ?_) | omega | (simp; done) | (simp; omega)))) hho)) (texts_one _) (by unfold maxLen; omega) (by omega) (by first | omega | (simp; done) | (simp; omega)) ?_
          intro A5 c5 w5 hown5 hg5 hat5
          rw [Nat.zero_add] at hown5 hat5
          have hb5 : Below wo.heap.size wo w5 := Below.grown (by (repeat' (first | with_reducible exact Below.refl _ _ | with_reducible assumption | (with_reducible refine Below.setCell ?_ ?_ _) | (with_reducible refine Below.alloc ?_ ?_ _) | (with_reducible refine below_drewN ?_ _) | (with_reducible refine Below.drew ?_) | omega | (simp; done) | (simp; omega)))) hg5 (by first | omega | (simp; done) | (simp; omega)) (fun g hg => by simp [Value.ownBlock] at hg; omega)
          have hs5 : wo.heap.size ≤ w5.heap.size := hb5.size
          have hz5 := hg5.size
          try simp at hz5
          have hlt5 := hown5.lt
          have k5 := blk_kept hg5
          first
          | (have H5 : w5.heap[wo.heap.size]? = some (Obj.cells #[Value.int IntKind.i64 0, Value.string ⟨#[]⟩, Value.string ⟨#[]⟩, Value.slice none 0 0, Value.slice none 0 0] 51) := by (repeat (first | (with_reducible assumption) | (with_reducible exact hl_new _ _ _ (by first | omega | (simp; done) | (simp; omega))) | (with_reducible refine hl_drew ?_) | (with_reducible refine hl_old _ ?_) | (refine k5 _ _ ?_ (by first | (simp [Value.ownBlock]; done) | (simp [Value.ownBlock]; omega)))))
             obtain ⟨ch0, ch1, ch2, ch3, ch4, fh0, fh1, fh2, fh3, fh4⟩ := box5_cells H5)
          | (have H5 : w5.heap[wo.heap.size + 1]? = some (Obj.cells #[Value.int IntKind.i64 0, Value.string ⟨#[]⟩, Value.string ⟨#[]⟩, Value.slice none 0 0, Value.slice none 0 0] 51) := by (repeat (first | (with_reducible assumption) | (with_reducible exact hl_new _ _ _ (by first | omega | (simp; done) | (simp; omega))) | (with_reducible refine hl_drew ?_) | (with_reducible refine hl_old _ ?_) | (refine k5 _ _ ?_ (by first | (simp [Value.ownBlock]; done) | (simp [Value.ownBlock]; omega)))))
             obtain ⟨ch0, ch1, ch2, ch3, ch4, fh0, fh1, fh2, fh3, fh4⟩ := box5_cells H5)
          | skip
          have cc0w5 : w5.cell? ⟨b1, o1 + k * 5, none⟩ = some (.int .i64 kind) := (hb5.cell (p := ⟨b1, o1 + k * 5, none⟩) hb1lt).trans D0.out
          have cc1w5 : w5.cell? ⟨b1, o1 + k * 5 + 1, none⟩ = some (.string ⟨path.toArray⟩) := (hb5.cell (p := ⟨b1, o1 + k * 5 + 1, none⟩) hb1lt).trans D1.out
          have cc3w5 : w5.cell? ⟨b1, o1 + k * 5 + 3, none⟩ = some (.slice A3 text.length c3) := (hb5.cell (p := ⟨b1, o1 + k * 5 + 3, none⟩) hb1lt).trans D3.out))
        all_goals
          go_wp2_with fail
          go_meet
          refine ⟨_, A5, c5, _, rfl, boxC_made (n := text.length) rfl rfl hown5 ?_ ?_ ?_ ?_ ?_ ?_ ?_⟩
          · intro g hg
            have hl := hlt5 g hg
            rw [hg] at hat5
            simp [Value.ownBlock] at hat5
            omega
          · intro q hq hqh
            first
            | (with_reducible exact Below.heap_alloc _ _ q hq)
            | (with_reducible exact (Below.heap_setCell _ _ _ q hqh).trans ((Below.heap_setCell _ _ _ q hqh).trans ((Below.heap_setCell _ _ _ q hqh).trans ((Below.heap_setCell _ _ _ q hqh).trans (Below.heap_setCell _ _ _ q hqh)))))
          · first | omega | (simp; done) | (simp; omega)
          · first | omega | (simp; done) | (simp; omega)
          · first | omega | (simp; done) | (simp; omega)
          · exact (by (repeat' (first | with_reducible exact Below.refl _ _ | with_reducible assumption | (with_reducible refine Below.setCell ?_ ?_ _) | (with_reducible refine Below.alloc ?_ ?_ _) | (with_reducible refine below_drewN ?_ _) | (with_reducible refine Below.drew ?_) | omega | (simp; done) | (simp; omega))))
          · dsimp only [preC]; first | (with_reducible exact set5 H5) | (with_reducible exact hl_new _ _ _ rfl)
      case rest =>
        obtain ⟨g, A3', c3', F, rfl, B⟩ := hcut
        obtain ⟨W, hW⟩ : ∃ W : World, W = wc := ⟨_, rfl⟩
        rw [← hW] at B ⊢
        clear hW d0 d1 d2 d3 d4
        have hbW := B.below
        have hWs := hbW.size
        have d0 : W.cell? ⟨b1, o1 + k * 5, none⟩ = some (.int .i64 kind) := (hbW.cell (p := ⟨b1, o1 + k * 5, none⟩) hb1lt).trans D0.out
        have d1 : W.cell? ⟨b1, o1 + k * 5 + 1, none⟩ = some (.string ⟨path.toArray⟩) := (hbW.cell (p := ⟨b1, o1 + k * 5 + 1, none⟩) hb1lt).trans D1.out
        have d2 : W.cell? ⟨b1, o1 + k * 5 + 2, none⟩ = some (.string ⟨dest.toArray⟩) := (hbW.cell (p := ⟨b1, o1 + k * 5 + 2, none⟩) hb1lt).trans D2.out
        have d4 : W.cell? ⟨b1, o1 + k * 5 + 4, none⟩ = some (.slice A4 patch.length c4) := (hbW.cell (p := ⟨b1, o1 + k * 5 + 4, none⟩) hb1lt).trans D4.out
        have e0 : W.cell? ⟨g, 0, none⟩ = some (.int .i64 kind) := B.k0
        have e1 : W.cell? ⟨g, 1, none⟩ = some (.string ⟨path.toArray⟩) := B.k1
        have e2 : W.cell? ⟨g, 2, none⟩ = some (.string ⟨#[]⟩) := B.k2
        have e3 : W.cell? ⟨g, 3, none⟩ = some (.slice A3' text.length c3') := B.k3
        have e4 : W.cell? ⟨g, 4, none⟩ = some (.slice none 0 0) := B.k4
        have hg0 := B.lo
        have hg1 := B.hi
        have hnd := Changes.n Hf.out.rep
        subst hnd
        have hg6 : b1 ≠ g := by omega
        by_cases k1 : kind = 1
        · skip
          subst k1
          have f0 : W.frozen? ⟨g, 0, none⟩ = false := B.z 0 (by omega)
          obtain ⟨W2, hW2⟩ : ∃ W2 : World, W2 = W.setCell ⟨g, 0, none⟩ (.int .i64 2) := ⟨_, rfl⟩
          have B2 := B.kind 2
          rw [← hW2] at B2
          have hb2 := B2.below
          have hs2 := hb2.size
          obtain ⟨us, G, hown, ho, hnodup, hbd⟩ := (Hf.out.keep hb2 (Nat.le_refl _)).row_of
          have hFs : W2.heap.size = W.heap.size := by rw [hW2]; simp
          have hS : Src (W2.alloc (.cells #[.int .i64 2, .string ⟨path.toArray⟩, .string ⟨#[]⟩, .slice A3' text.length c3', .slice none 0 0] 51)) 5 (some ⟨W.heap.size, 0, none⟩) 1 [.int .i64 2, .string ⟨path.toArray⟩, .string ⟨#[]⟩, .slice A3' text.length c3', .slice none 0 0] := by
            have h9 := Src.lit W2 51 [.int .i64 2, .string ⟨path.toArray⟩, .string ⟨#[]⟩, .slice A3' text.length c3', .slice none 0 0] 5 1 rfl
            rw [hFs] at h9
            exact h9
          have HFs := Lib.hid hFs
          clear hFs
          have HW2 := Lib.hid hW2
          go_wp2_with (at_builtin; rw [← hW2]; clear hW2; go_loud (refine wpList_append_src _ rfl (.tmp 68) (.tmp 70) _ rfl w.heap.size 51 ih _ 5 88 Tryd.underlying24 gi0 gi1 gi2 gi3 rfl (by omega) _ done.length us rfl (hown.alloc _) _ 1 1 [.int .i64 2, .string ⟨path.toArray⟩, .string ⟨#[]⟩, .slice A3' text.length c3', .slice none 0 0] rfl hS ?e2 ?e3 ?e4 ?e5 ?_))
          case e2 => first | (refine ⟨?_, ?_, ?_, ?_, ?_⟩ <;> rfl) | (intro u hu; simp at hu; rcases hu with rfl | rfl | rfl | rfl | rfl <;> rfl)
          case e3 => unfold maxLen; omega
          case e4 => omega
          case e5 => first | omega | (simp; omega)
          intro A7 c7 w7 hown7 hg7 hat7
          have hbX := (hb.trans (hb2.mono hsb)).alloc (by omega) (Obj.cells #[.int .i64 2, .string ⟨path.toArray⟩, .string ⟨#[]⟩, .slice A3' text.length c3', .slice none 0 0] 51)
          have hb7 := hbX.grown hg7 (by simp; omega) (fun g' hg' => (hown.lt g' hg').1)
          have hnew : FreshL (W2.alloc (Obj.cells #[.int .i64 2, .string ⟨path.toArray⟩, .string ⟨#[]⟩, .slice A3' text.length c3', .slice none 0 0] 51)) wo.heap.size W2.heap.size (cChanges (⟨2, path, [], text, []⟩ : PChange)) [.int .i64 2, .string ⟨path.toArray⟩, .string ⟨#[]⟩, .slice A3' text.length c3', .slice none 0 0] :=
            FreshL.same ⟨_, B2.own, B2.nodup, B2.bd⟩ ((Same.refl _ _ _).alloc (Nat.le_refl _) _)
          have ho7 := Owns.same _ _ _ ho (w' := W2.alloc (Obj.cells #[.int .i64 2, .string ⟨path.toArray⟩, .string ⟨#[]⟩, .slice A3' text.length c3', .slice none 0 0] 51)) (fun zz hq => Below.heap_alloc W2 _ zz (by have := hbd zz (List.mem_append_right _ hq); omega))
          have hsz7 : (W2.alloc (.cells #[.int .i64 2, .string ⟨path.toArray⟩, .string ⟨#[]⟩, .slice A3' text.length c3', .slice none 0 0] 51)).heap.size = W.heap.size + 1 := by simp [HFs.out]
          have hat8 : (Value.slice A7 (done.length + 1) c7).ownBlock = (Value.slice A' done.length c').ownBlock ∨ (Value.slice A7 (done.length + 1) c7).ownBlock = some (W2.alloc (.cells #[.int .i64 2, .string ⟨path.toArray⟩, .string ⟨#[]⟩, .slice A3' text.length c3', .slice none 0 0] 51)).heap.size := hat7.imp id (fun e => e.trans (by simp [HFs.out]))
          have hfin := Fresh.grew ho7 hnodup hbd hnew hown7 hg7 hat8 hs2 (by simp) hsb
          have hcons : done.flatMap cChanges ++ cChanges (⟨2, path, [], text, []⟩ : PChange) = (done ++ [(⟨2, path, [], text, []⟩ : PChange)]).flatMap cChanges := by simp
          rw [hcons] at hfin
          have hY : backC ⟨1, path, dest, text, patch⟩ = (⟨2, path, [], text, []⟩ : PChange) := by simp [backC]
          have Hf7 := Lib.hid (show Fresh w7 w.heap.size w7.heap.size (encChanges ((xs.take (k + 1)).map backC)) (.slice A7 (done.length + 1) c7) by rw [Hnx.out, hY]; exact hfin)
          clear hfin hcons hnew hown7 hg7 hat7 hat8 hsz7 hS hbX ho7 ho hown e0 e1 e2 e3 e4 d0 d1 d2 d4 hb2
          go_wp2
          go_roundw
          case rel => exact ⟨k + 1, _, _, _, by omega, rfl, by go_num, Hf7, hb7⟩
          case measure => first | (simp [intOf]; done) | (simp [intOf]; omega)
        · by_cases k2 : kind = 2
          · skip
            subst k2
            have f0 : W.frozen? ⟨g, 0, none⟩ = false := B.z 0 (by omega)
            obtain ⟨W2, hW2⟩ : ∃ W2 : World, W2 = W.setCell ⟨g, 0, none⟩ (.int .i64 1) := ⟨_, rfl⟩
            have B2 := B.kind 1
            rw [← hW2] at B2
            have hb2 := B2.below
            have hs2 := hb2.size
            obtain ⟨us, G, hown, ho, hnodup, hbd⟩ := (Hf.out.keep hb2 (Nat.le_refl _)).row_of
            have hFs : W2.heap.size = W.heap.size := by rw [hW2]; simp
            have hS : Src (W2.alloc (.cells #[.int .i64 1, .string ⟨path.toArray⟩, .string ⟨#[]⟩, .slice A3' text.length c3', .slice none 0 0] 51)) 5 (some ⟨W.heap.size, 0, none⟩) 1 [.int .i64 1, .string ⟨path.toArray⟩, .string ⟨#[]⟩, .slice A3' text.length c3', .slice none 0 0] := by
              have h9 := Src.lit W2 51 [.int .i64 1, .string ⟨path.toArray⟩, .string ⟨#[]⟩, .slice A3' text.length c3', .slice none 0 0] 5 1 rfl
              rw [hFs] at h9
              exact h9
            have HFs := Lib.hid hFs
            clear hFs
            have HW2 := Lib.hid hW2
            go_wp2_with (at_builtin; rw [← hW2]; clear hW2; go_loud (refine wpList_append_src _ rfl (.tmp 68) (.tmp 70) _ rfl w.heap.size 51 ih _ 5 88 Tryd.underlying24 gi0 gi1 gi2 gi3 rfl (by omega) _ done.length us rfl (hown.alloc _) _ 1 1 [.int .i64 1, .string ⟨path.toArray⟩, .string ⟨#[]⟩, .slice A3' text.length c3', .slice none 0 0] rfl hS ?e2 ?e3 ?e4 ?e5 ?_))
            case e2 => first | (refine ⟨?_, ?_, ?_, ?_, ?_⟩ <;> rfl) | (intro u hu; simp at hu; rcases hu with rfl | rfl | rfl | rfl | rfl <;> rfl)
            case e3 => unfold maxLen; omega
            case e4 => omega
            case e5 => first | omega | (simp; omega)
            intro A7 c7 w7 hown7 hg7 hat7
            have hbX := (hb.trans (hb2.mono hsb)).alloc (by omega) (Obj.cells #[.int .i64 1, .string ⟨path.toArray⟩, .string ⟨#[]⟩, .slice A3' text.length c3', .slice none 0 0] 51)
            have hb7 := hbX.grown hg7 (by simp; omega) (fun g' hg' => (hown.lt g' hg').1)
            have hnew : FreshL (W2.alloc (Obj.cells #[.int .i64 1, .string ⟨path.toArray⟩, .string ⟨#[]⟩, .slice A3' text.length c3', .slice none 0 0] 51)) wo.heap.size W2.heap.size (cChanges (⟨1, path, [], text, []⟩ : PChange)) [.int .i64 1, .string ⟨path.toArray⟩, .string ⟨#[]⟩, .slice A3' text.length c3', .slice none 0 0] :=
              FreshL.same ⟨_, B2.own, B2.nodup, B2.bd⟩ ((Same.refl _ _ _).alloc (Nat.le_refl _) _)
            have ho7 := Owns.same _ _ _ ho (w' := W2.alloc (Obj.cells #[.int .i64 1, .string ⟨path.toArray⟩, .string ⟨#[]⟩, .slice A3' text.length c3', .slice none 0 0] 51)) (fun zz hq => Below.heap_alloc W2 _ zz (by have := hbd zz (List.mem_append_right _ hq); omega))
            have hsz7 : (W2.alloc (.cells #[.int .i64 1, .string ⟨path.toArray⟩, .string ⟨#[]⟩, .slice A3' text.length c3', .slice none 0 0] 51)).heap.size = W.heap.size + 1 := by simp [HFs.out]
            have hat8 : (Value.slice A7 (done.length + 1) c7).ownBlock = (Value.slice A' done.length c').ownBlock ∨ (Value.slice A7 (done.length + 1) c7).ownBlock = some (W2.alloc (.cells #[.int .i64 1, .string ⟨path.toArray⟩, .string ⟨#[]⟩, .slice A3' text.length c3', .slice none 0 0] 51)).heap.size := hat7.imp id (fun e => e.trans (by simp [HFs.out]))
            have hfin := Fresh.grew ho7 hnodup hbd hnew hown7 hg7 hat8 hs2 (by simp) hsb
            have hcons : done.flatMap cChanges ++ cChanges (⟨1, path, [], text, []⟩ : PChange) = (done ++ [(⟨1, path, [], text, []⟩ : PChange)]).flatMap cChanges := by simp
            rw [hcons] at hfin
            have hY : backC ⟨2, path, dest, text, patch⟩ = (⟨1, path, [], text, []⟩ : PChange) := by simp [backC]
            have Hf7 := Lib.hid (show Fresh w7 w.heap.size w7.heap.size (encChanges ((xs.take (k + 1)).map backC)) (.slice A7 (done.length + 1) c7) by rw [Hnx.out, hY]; exact hfin)
            clear hfin hcons hnew hown7 hg7 hat7 hat8 hsz7 hS hbX ho7 ho hown e0 e1 e2 e3 e4 d0 d1 d2 d4 hb2
            go_wp2
            go_roundw
            case rel => exact ⟨k + 1, _, _, _, by omega, rfl, by go_num, Hf7, hb7⟩
            case measure => first | (simp [intOf]; done) | (simp [intOf]; omega)
          · by_cases k3 : kind = 3
            · subst k3
              have ht0 : text = [] := changeOk_notext Hxo.out (by simp) (by simp)
              subst ht0
              obtain ⟨hxa, hxb⟩ := changeOk_edit Hxo.out rfl
              have r4W := r4.keep hbW hho
              go_wp2_with fail
              refine Calls.mono (spec_l2Back_any A4 patch.length c4 patch W lo hi r4W (by omega) (hunkOk_of_patchOk hxa) (patchOk_len hxa)) ?_
              rintro e w5 ⟨A5, n5, c5, rfl, hb5, hf5⟩
              obtain ⟨F2, B3⟩ := B.patch (w5 := w5) rfl hb5 hf5
              have hn5 := Hunks.n hf5.rep
              subst hn5
              have f4 : w5.frozen? ⟨g, 4, none⟩ = false := (hb5.frozen (p := ⟨g, 4, none⟩) hg1).trans (B.z 4 (by omega))
              have q0 := (hb5.cell (p := ⟨g, 0, none⟩) hg1).trans e0
              have q1 := (hb5.cell (p := ⟨g, 1, none⟩) hg1).trans e1
              have q2 := (hb5.cell (p := ⟨g, 2, none⟩) hg1).trans e2
              have q3 := (hb5.cell (p := ⟨g, 3, none⟩) hg1).trans e3
              have q4 := (hb5.cell (p := ⟨g, 4, none⟩) hg1).trans e4
              clear hb5 hf5
              obtain ⟨W2, hW2⟩ : ∃ W2 : World, W2 = w5.setCell ⟨g, 4, none⟩ (.slice A5 (backFrom patch 0).length c5) := ⟨_, rfl⟩
              have B2 := B3
              rw [← hW2] at B2
              have hb2 := B2.below
              have hs2 := hb2.size
              obtain ⟨us, G, hown, ho, hnodup, hbd⟩ := (Hf.out.keep hb2 (Nat.le_refl _)).row_of
              have hFs : W2.heap.size = w5.heap.size := by rw [hW2]; simp
              have hS : Src (W2.alloc (.cells #[.int .i64 3, .string ⟨path.toArray⟩, .string ⟨#[]⟩, .slice A3' 0 c3', .slice A5 (backFrom patch 0).length c5] 51)) 5 (some ⟨w5.heap.size, 0, none⟩) 1 [.int .i64 3, .string ⟨path.toArray⟩, .string ⟨#[]⟩, .slice A3' 0 c3', .slice A5 (backFrom patch 0).length c5] := by
                have h9 := Src.lit W2 51 [.int .i64 3, .string ⟨path.toArray⟩, .string ⟨#[]⟩, .slice A3' 0 c3', .slice A5 (backFrom patch 0).length c5] 5 1 rfl
                rw [hFs] at h9
                exact h9
              have HFs := Lib.hid hFs
              clear hFs
              have HW2 := Lib.hid hW2
              go_wp2_with (at_builtin; rw [← hW2]; clear hW2; go_loud (refine wpList_append_src _ rfl (.tmp 68) (.tmp 70) _ rfl w.heap.size 51 ih _ 5 88 Tryd.underlying24 gi0 gi1 gi2 gi3 rfl (by omega) _ done.length us rfl (hown.alloc _) _ 1 1 [.int .i64 3, .string ⟨path.toArray⟩, .string ⟨#[]⟩, .slice A3' 0 c3', .slice A5 (backFrom patch 0).length c5] rfl hS ?e2 ?e3 ?e4 ?e5 ?_))
              case e2 => first | (refine ⟨?_, ?_, ?_, ?_, ?_⟩ <;> rfl) | (intro u hu; simp at hu; rcases hu with rfl | rfl | rfl | rfl | rfl <;> rfl)
              case e3 => unfold maxLen; omega
              case e4 => omega
              case e5 => first | omega | (simp; omega)
              intro A7 c7 w7 hown7 hg7 hat7
              have hbX := (hb.trans (hb2.mono hsb)).alloc (by omega) (Obj.cells #[.int .i64 3, .string ⟨path.toArray⟩, .string ⟨#[]⟩, .slice A3' 0 c3', .slice A5 (backFrom patch 0).length c5] 51)
              have hb7 := hbX.grown hg7 (by simp; omega) (fun g' hg' => (hown.lt g' hg').1)
              have hnew : FreshL (W2.alloc (Obj.cells #[.int .i64 3, .string ⟨path.toArray⟩, .string ⟨#[]⟩, .slice A3' 0 c3', .slice A5 (backFrom patch 0).length c5] 51)) wo.heap.size W2.heap.size (cChanges (⟨3, path, [], [], backFrom patch 0⟩ : PChange)) [.int .i64 3, .string ⟨path.toArray⟩, .string ⟨#[]⟩, .slice A3' 0 c3', .slice A5 (backFrom patch 0).length c5] :=
                FreshL.same ⟨_, B2.own, B2.nodup, B2.bd⟩ ((Same.refl _ _ _).alloc (Nat.le_refl _) _)
              have ho7 := Owns.same _ _ _ ho (w' := W2.alloc (Obj.cells #[.int .i64 3, .string ⟨path.toArray⟩, .string ⟨#[]⟩, .slice A3' 0 c3', .slice A5 (backFrom patch 0).length c5] 51)) (fun zz hq => Below.heap_alloc W2 _ zz (by have := hbd zz (List.mem_append_right _ hq); omega))
              have hsz7 : (W2.alloc (.cells #[.int .i64 3, .string ⟨path.toArray⟩, .string ⟨#[]⟩, .slice A3' 0 c3', .slice A5 (backFrom patch 0).length c5] 51)).heap.size = w5.heap.size + 1 := by simp [HFs.out]
              have hat8 : (Value.slice A7 (done.length + 1) c7).ownBlock = (Value.slice A' done.length c').ownBlock ∨ (Value.slice A7 (done.length + 1) c7).ownBlock = some (W2.alloc (.cells #[.int .i64 3, .string ⟨path.toArray⟩, .string ⟨#[]⟩, .slice A3' 0 c3', .slice A5 (backFrom patch 0).length c5] 51)).heap.size := hat7.imp id (fun e => e.trans (by simp [HFs.out]))
              have hfin := Fresh.grew ho7 hnodup hbd hnew hown7 hg7 hat8 hs2 (by simp) hsb
              have hcons : done.flatMap cChanges ++ cChanges (⟨3, path, [], [], backFrom patch 0⟩ : PChange) = (done ++ [(⟨3, path, [], [], backFrom patch 0⟩ : PChange)]).flatMap cChanges := by simp
              rw [hcons] at hfin
              have hY : backC ⟨3, path, dest, [], patch⟩ = (⟨3, path, [], [], backFrom patch 0⟩ : PChange) := by simp [backC]
              have Hf7 := Lib.hid (show Fresh w7 w.heap.size w7.heap.size (encChanges ((xs.take (k + 1)).map backC)) (.slice A7 (done.length + 1) c7) by rw [Hnx.out, hY]; exact hfin)
              clear hfin hcons hnew hown7 hg7 hat7 hat8 hsz7 hS hbX ho7 ho hown e0 e1 e2 e3 e4 d0 d1 d2 d4 hb2
              go_wp2
              go_roundw
              case rel => exact ⟨k + 1, _, _, _, by omega, rfl, by go_num, Hf7, hb7⟩
              case measure => first | (simp [intOf]; done) | (simp [intOf]; omega)
            · have k4 : kind = 4 := changeOk_kind Hxo.out k1 k2 k3
              subst k4
              have ht0 : text = [] := changeOk_notext Hxo.out (by simp) (by simp)
              subst ht0
              have f1 : W.frozen? ⟨g, 1, none⟩ = false := B.z 1 (by omega)
              have f2 : W.frozen? ⟨g, 2, none⟩ = false := B.z 2 (by omega)
              obtain ⟨W2, hW2⟩ : ∃ W2 : World, W2 = (W.setCell ⟨g, 1, none⟩ (.string ⟨dest.toArray⟩)).setCell ⟨g, 2, none⟩ (.string ⟨path.toArray⟩) := ⟨_, rfl⟩
              have B2 := (B.path dest).dest path
              rw [← hW2] at B2
              have hb2 := B2.below
              have hs2 := hb2.size
              obtain ⟨us, G, hown, ho, hnodup, hbd⟩ := (Hf.out.keep hb2 (Nat.le_refl _)).row_of
              have hFs : W2.heap.size = W.heap.size := by rw [hW2]; simp
              have hS : Src (W2.alloc (.cells #[.int .i64 4, .string ⟨dest.toArray⟩, .string ⟨path.toArray⟩, .slice A3' 0 c3', .slice none 0 0] 51)) 5 (some ⟨W.heap.size, 0, none⟩) 1 [.int .i64 4, .string ⟨dest.toArray⟩, .string ⟨path.toArray⟩, .slice A3' 0 c3', .slice none 0 0] := by
                have h9 := Src.lit W2 51 [.int .i64 4, .string ⟨dest.toArray⟩, .string ⟨path.toArray⟩, .slice A3' 0 c3', .slice none 0 0] 5 1 rfl
                rw [hFs] at h9
                exact h9
              have HFs := Lib.hid hFs
              clear hFs
              have HW2 := Lib.hid hW2
              go_wp2_with (at_builtin; rw [← hW2]; clear hW2; go_loud (refine wpList_append_src _ rfl (.tmp 68) (.tmp 70) _ rfl w.heap.size 51 ih _ 5 88 Tryd.underlying24 gi0 gi1 gi2 gi3 rfl (by omega) _ done.length us rfl (hown.alloc _) _ 1 1 [.int .i64 4, .string ⟨dest.toArray⟩, .string ⟨path.toArray⟩, .slice A3' 0 c3', .slice none 0 0] rfl hS ?e2 ?e3 ?e4 ?e5 ?_))
              case e2 => first | (refine ⟨?_, ?_, ?_, ?_, ?_⟩ <;> rfl) | (intro u hu; simp at hu; rcases hu with rfl | rfl | rfl | rfl | rfl <;> rfl)
              case e3 => unfold maxLen; omega
              case e4 => omega
              case e5 => first | omega | (simp; omega)
              intro A7 c7 w7 hown7 hg7 hat7
              have hbX := (hb.trans (hb2.mono hsb)).alloc (by omega) (Obj.cells #[.int .i64 4, .string ⟨dest.toArray⟩, .string ⟨path.toArray⟩, .slice A3' 0 c3', .slice none 0 0] 51)
              have hb7 := hbX.grown hg7 (by simp; omega) (fun g' hg' => (hown.lt g' hg').1)
              have hnew : FreshL (W2.alloc (Obj.cells #[.int .i64 4, .string ⟨dest.toArray⟩, .string ⟨path.toArray⟩, .slice A3' 0 c3', .slice none 0 0] 51)) wo.heap.size W2.heap.size (cChanges (⟨4, dest, path, [], []⟩ : PChange)) [.int .i64 4, .string ⟨dest.toArray⟩, .string ⟨path.toArray⟩, .slice A3' 0 c3', .slice none 0 0] :=
                FreshL.same ⟨_, B2.own, B2.nodup, B2.bd⟩ ((Same.refl _ _ _).alloc (Nat.le_refl _) _)
              have ho7 := Owns.same _ _ _ ho (w' := W2.alloc (Obj.cells #[.int .i64 4, .string ⟨dest.toArray⟩, .string ⟨path.toArray⟩, .slice A3' 0 c3', .slice none 0 0] 51)) (fun zz hq => Below.heap_alloc W2 _ zz (by have := hbd zz (List.mem_append_right _ hq); omega))
              have hsz7 : (W2.alloc (.cells #[.int .i64 4, .string ⟨dest.toArray⟩, .string ⟨path.toArray⟩, .slice A3' 0 c3', .slice none 0 0] 51)).heap.size = W.heap.size + 1 := by simp [HFs.out]
              have hat8 : (Value.slice A7 (done.length + 1) c7).ownBlock = (Value.slice A' done.length c').ownBlock ∨ (Value.slice A7 (done.length + 1) c7).ownBlock = some (W2.alloc (.cells #[.int .i64 4, .string ⟨dest.toArray⟩, .string ⟨path.toArray⟩, .slice A3' 0 c3', .slice none 0 0] 51)).heap.size := hat7.imp id (fun e => e.trans (by simp [HFs.out]))
              have hfin := Fresh.grew ho7 hnodup hbd hnew hown7 hg7 hat8 hs2 (by simp) hsb
              have hcons : done.flatMap cChanges ++ cChanges (⟨4, dest, path, [], []⟩ : PChange) = (done ++ [(⟨4, dest, path, [], []⟩ : PChange)]).flatMap cChanges := by simp
              rw [hcons] at hfin
              have hY : backC ⟨4, path, dest, [], patch⟩ = (⟨4, dest, path, [], []⟩ : PChange) := by simp [backC]
              have Hf7 := Lib.hid (show Fresh w7 w.heap.size w7.heap.size (encChanges ((xs.take (k + 1)).map backC)) (.slice A7 (done.length + 1) c7) by rw [Hnx.out, hY]; exact hfin)
              clear hfin hcons hnew hown7 hg7 hat7 hat8 hsz7 hS hbX ho7 ho hown e0 e1 e2 e3 e4 d0 d1 d2 d4 hb2
              go_wp2
              go_roundw
              case rel => exact ⟨k + 1, _, _, _, by omega, rfl, by go_num, Hf7, hb7⟩
              case measure => first | (simp [intOf]; done) | (simp [intOf]; omega)
    · obtain rfl : k = xs.length := by omega
      have hF2 := hF.out
      rw [List.take_length] at hF2
      have HF2 := Lib.hid hF2
      clear hF hF2
      go_wp2
      go_ret
      exact ⟨_, _, _, rfl, hb, by rw [Hput.out]; exact HF2.out⟩
end Go.Proofs.YtianpeokdojkbaaDoor
