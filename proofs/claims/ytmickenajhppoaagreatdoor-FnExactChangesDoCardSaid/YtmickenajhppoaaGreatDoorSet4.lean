import Derived.Test.YtmickenajhppoaaGreatDoorZ28
import Derived.Test.YtmickenajhppoaaGreatDoorTreeDrop2
import Derived.Deep.Cut
/- Walk: the reference's l4Set: a tree with one file at its place. -/
namespace Go.Proofs.YtmickenajhppoaaGreatDoor
open Go.RowKit

theorem setF_prefix {a : List PFile} {f x : PFile} (h : ∃ y ∈ a, ltS y.path f.path = false) : setF (a ++ [x]) f = setF a f ++ (if x.path = f.path then [] else [x]) := by
  induction a with
  | nil => obtain ⟨y, hy, _⟩ := h; cases hy
  | cons y a ih =>
    rw [List.cons_append]
    unfold setF
    cases hl : ltS y.path f.path with
    | true =>
      simp only [if_true]
      rw [ih (by
        obtain ⟨z, hz, hz2⟩ := h
        rcases List.mem_cons.1 hz with e | m
        · rw [e, hl] at hz2; cases hz2
        · exact ⟨z, m, hz2⟩)]
      rfl
    | false =>
      simp only [Bool.false_eq_true, if_false]
      rw [← List.cons_append, List.filter_append]
      by_cases e : x.path = f.path
      · simp [e]
      · simp [e]
theorem setF_first {a : List PFile} {f x : PFile} (h : ∀ y ∈ a, ltS y.path f.path = true) (hx : ltS x.path f.path = false) : setF (a ++ [x]) f = a ++ [f] ++ (if x.path = f.path then [] else [x]) := by
  have := setF_split a [x] f h (fun y hy => by simp at hy; rw [hy]; exact hx)
  rw [this]
  by_cases e : x.path = f.path
  · simp [e]
  · simp [e]

/-- Cells that read as plain data in one of two ranges of blocks. -/
def Two (w : World) (lo hi lo2 hi2 : Nat) (ps : List PV) (us : List Value) : Prop := us.length = ps.length ∧ ∀ (j : Nat) (p : PV), ps[j]? = some p → ∃ u : Value, us[j]? = some u ∧ (Rep w lo hi p u ∨ Rep w lo2 hi2 p u)
theorem RepL.two {w : World} {lo hi lo2 hi2 : Nat} {ps : List PV} {us : List Value} (h : RepL w lo hi ps us) : Two w lo hi lo2 hi2 ps us := ⟨h.1, fun j p hj => let ⟨u, hu, hr⟩ := h.2 j p hj; ⟨u, hu, .inl hr⟩⟩
theorem RepL.two' {w : World} {lo hi lo2 hi2 : Nat} {ps : List PV} {us : List Value} (h : RepL w lo2 hi2 ps us) : Two w lo hi lo2 hi2 ps us := ⟨h.1, fun j p hj => let ⟨u, hu, hr⟩ := h.2 j p hj; ⟨u, hu, .inr hr⟩⟩
theorem Two.append {w : World} {lo hi lo2 hi2 : Nat} {ps qs : List PV} {us vs : List Value} (h : Two w lo hi lo2 hi2 ps us) (h' : Two w lo hi lo2 hi2 qs vs) : Two w lo hi lo2 hi2 (ps ++ qs) (us ++ vs) := by
  refine ⟨by simp [h.1, h'.1], fun j p hj => ?_⟩
  by_cases hlt : j < ps.length
  · rw [List.getElem?_append_left hlt] at hj
    rw [List.getElem?_append_left (by rw [h.1]; exact hlt)]
    exact h.2 j p hj
  · rw [List.getElem?_append_right (by omega)] at hj
    rw [List.getElem?_append_right (by rw [h.1]; omega), h.1]
    exact h'.2 _ p hj
theorem Two.same {w w' : World} {lo hi lo2 hi2 : Nat} {ps : List PV} {us : List Value} (h : Two w lo hi lo2 hi2 ps us) (h1 : Same lo hi w w') (h2 : Same lo2 hi2 w w') : Two w' lo hi lo2 hi2 ps us :=
  ⟨h.1, fun j p hj => let ⟨u, hu, hr⟩ := h.2 j p hj; ⟨u, hu, hr.imp (fun r => r.same h1) (fun r => r.same h2)⟩⟩
theorem Two.repL {w : World} {lo hi lo2 hi2 lo' hi' : Nat} {ps : List PV} {us : List Value} (h : Two w lo hi lo2 hi2 ps us) (a1 : lo' ≤ lo) (a2 : hi ≤ hi') (b1 : lo' ≤ lo2) (b2 : hi2 ≤ hi') : RepL w lo' hi' ps us :=
  ⟨h.1, fun j p hj => let ⟨u, hu, hr⟩ := h.2 j p hj; ⟨u, hu, hr.elim (fun r => r.mono a1 a2) (fun r => r.mono b1 b2)⟩⟩
/-- A range of blocks that a growing row leaves as it was. -/
theorem Same.grew {w w' : World} {o : Obj} {row : Option Nat} {lo hi : Nat} (hg : (w.alloc o).grownBy w' row) (hh : hi ≤ w.heap.size) (hr : ∀ g, row = some g → g < lo ∨ hi ≤ g) : Same lo hi w w' := fun k a b =>
  (hg.block k (by simp; omega) (fun e => by have := hr k e.symm; omega)).trans (Below.heap_alloc w o k (by omega))

theorem Same.grewFrom {w0 w w' : World} {o : Obj} {row : Option Nat} {lo hi : Nat} (hg : (w.alloc o).grownBy w' row) (he : w.heap = w0.heap) (hh : hi ≤ w0.heap.size) (hr : ∀ g, row = some g → g < lo ∨ hi ≤ g) : Same lo hi w0 w' := fun k a b =>
  (Same.grew hg (by rw [he]; exact hh) hr k a b).trans (by rw [he])

set_option maxRecDepth 100000 in
set_option maxHeartbeats 3200000 in
theorem spec_l4Set_any (A A1 : Option Addr) (n c n1 c1 : Nat) (xs : List PFile) (f : PFile) (w : World) (lo hi lo1 hi1 : Nat) (h : Rep w lo hi (encFiles xs) (.slice A n c)) (h1 : Rep w lo1 hi1 (encText f.text) (.slice A1 n1 c1)) (hlo : lo ≤ w.heap.size) (hh : hi ≤ w.heap.size) (hh1 : hi1 ≤ w.heap.size)
    (hx8 : xs.length ≤ 1000000) (hft : f.text.length ≤ 1048576) :
    Calls Tryz.prog 48 #[.slice A n c, .agg #[.string ⟨f.path.toArray⟩, .slice A1 n1 c1]] w fun e w' => ∃ A n c, e = .returned (.slice A n c) ∧ Below w.heap.size w w' ∧ Rep w' lo w'.heap.size (encFiles (setF xs f)) (.slice A n c) := by
  have hln := Files.n h
  have hn1 := Text.n h1
  subst hln hn1
  obtain ⟨hc, hm⟩ := Files.cap h
  obtain ⟨ih, gi0, gi1, gi2, gi3⟩ := info_parts Tryz.infoFile
  obtain ⟨is, si0, si1, si2, si3⟩ := info_parts Tryz.infoStr
  have hb0 : Below w.heap.size w (w.alloc (.cells #[.string ⟨f.path.toArray⟩, .slice A1 f.text.length c1] 48)) := (Below.refl _ _).alloc (Nat.le_refl _) _
  have q0 : (w.alloc (.cells #[.string ⟨f.path.toArray⟩, .slice A1 f.text.length c1] 48)).cell? ⟨w.heap.size, 0, none⟩ = some (.string ⟨f.path.toArray⟩) := by simp [go_sem]
  have q1 : (w.alloc (.cells #[.string ⟨f.path.toArray⟩, .slice A1 f.text.length c1] 48)).cell? ⟨w.heap.size, 1, none⟩ = some (.slice A1 f.text.length c1) := by simp [go_sem]
  obtain ⟨W0, hW0⟩ : ∃ W0, W0 = w.alloc (.cells #[.string ⟨f.path.toArray⟩, .slice A1 f.text.length c1] 48) := ⟨_, rfl⟩
  have hS0 : w.heap.size + 1 = W0.heap.size := by rw [hW0]; simp
  rw [← hW0] at hb0 q0 q1
  have hz0 : w.heap.size < W0.heap.size := by omega
  have HW := h.keep hb0 hh
  have HT := h1.keep hb0 hh1
  have hhW : hi ≤ W0.heap.size := by omega
  have hh1W : hi1 ≤ W0.heap.size := by omega
  have hrow0 : (W0.alloc (.cells #[] 48)).ownsRow W0.heap.size 48 2 (.slice (some ⟨W0.heap.size, 0, none⟩) 0 0) 0 [] := World.ownsRow_made W0 #[] 0 (Nat.le_refl _) (Nat.zero_le _) rfl
  have HW0 := Lib.hid hW0
  clear h h1 hS0
  go_enter Tryz.func48, Tryz.ntmps48
  go_upto_region 1 with fail
  rw [← hW0]
  clear hW0 HW0
  go_wp2
  go_loopw [5, 6, 7] (fun t p i wr => ∃ (k : Nat) (pb : Bool) (D : List PFile) (us : List Value) (A' : Option Addr) (n' c' lo2 hi2 : Nat), k ≤ xs.length ∧ i = .int .i64 k ∧ p = .bool pb ∧ t = .slice A' n' c' ∧ n' = D.length ∧ D.length ≤ k + 1 ∧
      Hid (D = if pb then setF (xs.take k) f else xs.take k) ∧ Hid (if pb then ∃ y ∈ xs.take k, ltS y.path f.path = false else ∀ y ∈ xs.take k, ltS y.path f.path = true) ∧ Hid (pb = false → RepL wr lo hi (D.flatMap cFiles) us) ∧
      Hid (Two wr lo hi lo2 hi2 (D.flatMap cFiles) us) ∧ Hid (wr.ownsRow W0.heap.size 48 2 (.slice A' n' c') n' us) ∧ Below W0.heap.size W0 wr ∧ W0.heap.size ≤ lo2 ∧ hi2 ≤ wr.heap.size ∧
      Hid (∀ g, (Value.slice A' n' c').ownBlock = some g → g < lo2 ∨ hi2 ≤ g)) (fun _ _ i _ => xs.length - (intOf i).toNat)
  case atStart => exact ⟨0, false, [], [], _, _, _, W0.heap.size, W0.heap.size, Nat.zero_le _, rfl, rfl, rfl, rfl, Nat.zero_le _, Lib.hid (by simp), Lib.hid (by simp), Lib.hid (fun _ => RepL.nil _ _ _), Lib.hid (RepL.nil _ _ _).two, Lib.hid hrow0, (Below.refl _ _).alloc (Nat.le_refl _) _, Nat.le_refl _, by simp, Lib.hid (fun g _ => by omega)⟩
  case round =>
    clear hrow0
    obtain ⟨k, pb, D, us, A', n', c', lo2, hi2, hk, rfl, rfl, rfl, hn', hDl, hD, hcond, hRp, hT, hown, hb, hl2, hh2, hapart⟩ := hrel
    subst hn'
    have hsz := hb.size
    have hblt : w.heap.size < wr.heap.size := by omega
    have hhr : hi ≤ wr.heap.size := by omega
    have g0 : wr.cell? ⟨w.heap.size, 0, none⟩ = some (.string ⟨f.path.toArray⟩) := (hb.cell (p := ⟨w.heap.size, 0, none⟩) hz0).trans q0
    have g1 : wr.cell? ⟨w.heap.size, 1, none⟩ = some (.slice A1 f.text.length c1) := (hb.cell (p := ⟨w.heap.size, 1, none⟩) hz0).trans q1
    have hboxne : some w.heap.size ≠ (Value.slice A' D.length c').ownBlock := fun e => by
      have := (hown.out.lt w.heap.size e.symm).1
      omega

    by_cases hkn : k < xs.length
    · have hkn' : (k : Int) < (xs.length : Int) := by omega
      obtain ⟨wo, rfl⟩ : ∃ wo : World, wo = wr := ⟨_, rfl⟩
      obtain ⟨b1, o1, x, rfl, _, hbhi, hx, A2, n2, c2, d0, d1, r1⟩ := Files.at (HW.keep hb hhW) hkn
      have hn2 := Text.n r1
      subst hn2
      have RXwo := Lib.hid r1
      have hstep : xs.take (k + 1) = xs.take k ++ [x] := by rw [List.take_add_one, hx]; rfl
      have hmem : x ∈ xs.take (k + 1) := by rw [hstep]; simp
      have Hstep := Lib.hid hstep
      have Hmem := Lib.hid hmem
      clear r1 hstep hmem hx
      have hbo := hb
      have hszo := hsz

      cases pb
      · by_cases hlt : ltS x.path f.path = true
        · have hne : (x.path != f.path) = true := by
            simp only [bne_iff_ne]
            intro e
            rw [e, ltS_irrefl] at hlt
            cases hlt
          have hne2 : (x.path == f.path) = false := by simpa using hne
          have hd2 : D ++ [x] = xs.take (k + 1) := by rw [Hstep.out]; have := hD.out; simp at this; rw [this]
          have hc2 : ∀ y ∈ xs.take (k + 1), ltS y.path f.path = true := by
            rw [Hstep.out]
            intro y hy
            rcases List.mem_append.1 hy with m | m
            · have := hcond.out; simp at this; exact this y m
            · simp at m; rw [m]; exact hlt
          have Hd2 := Lib.hid (show D ++ [x] = if false = true then setF (xs.take (k + 1)) f else xs.take (k + 1) by rw [hd2]; simp)
          have Hc2 := Lib.hid (show if false = true then ∃ y ∈ xs.take (k + 1), ltS y.path f.path = false else ∀ y ∈ xs.take (k + 1), ltS y.path f.path = true by simpa using hc2)
          clear hd2 hc2
          unfold ltS at hlt
          go_wp2
          go_quiet (fail)
          go_wp2
          go_quiet (fail)
          have hownD : ∀ W : World, W.heap = wo.heap → W.ownsRow W0.heap.size 48 2 (.slice A' (D.length) c') (D.length) (us) := fun W e => ownsRow_same hown.out (fun q _ => by rw [e])
          have hszD : ∀ W : World, W.heap = wo.heap → W.heap.size = wo.heap.size := fun W e => by rw [e]
          have HszD := Lib.hid hszD
          clear hszD
          go_wp2_with (at_builtin; refine wpList_append_src _ rfl (.tmp 45) (.tmp 50) _ rfl W0.heap.size 48 ih _ 2 40 Tryz.underlying26 gi0 gi1 gi2 gi3 rfl (by omega) _ (D.length) _ rfl (World.ownsRow.alloc (hownD _ rfl) _) _ 1 1 [.string ⟨x.path.toArray⟩, .slice A2 x.text.length c2] rfl (Src.lit _ 48 [.string ⟨x.path.toArray⟩, .slice A2 x.text.length c2] 2 1 rfl) ?e2 ?e3 ?e4 ?e5 ?_)
          case e2 => intro u hu; simp at hu; rcases hu with rfl | rfl <;> rfl
          case e3 => unfold maxLen; omega
          case e4 => omega
          case e5 => first | omega | (simp; omega)
          intro A8 c8 w8 hown8 hg8 hat8
          have hrow8 : ∀ g, (Value.slice A' (D.length) c').ownBlock = some g → W0.heap.size ≤ g ∧ g < wo.heap.size := fun g hg => World.ownsRow.lt hown.out g hg
          have hsA : Same lo hi wo w8 := Same.grewFrom hg8 rfl (by omega) (fun g hg => by have := hrow8 g hg; omega)
          have hsB : Same lo2 hi2 wo w8 := Same.grewFrom hg8 rfl (by omega) (fun g hg => hapart.out g hg)
          have hs8 := hg8.size
          simp at hs8
          have hL8 : Two w8 lo hi lo2 hi2 ((D ++ [x]).flatMap cFiles) (us ++ [.string ⟨x.path.toArray⟩, .slice A2 x.text.length c2]) := by
            rw [List.flatMap_append]
            exact Two.append (Two.same hT.out hsA hsB) (RepL.two (show RepL w8 lo hi (cFiles x) _ from RepL.cons (.str _) (RepL.cons (RXwo.out.same hsA) (RepL.nil _ _ _))))
          have hr8 : ∀ g, (Value.slice A8 (D.length + 1) c8).ownBlock = some g → g < lo2 ∨ hi2 ≤ g := fun g hg => by
            rcases hat8 with e | e
            · exact hapart.out g (e.symm.trans hg)
            · right; rw [e] at hg; have := Option.some.inj hg; (try simp at this); omega
          have hb8 : Below W0.heap.size W0 w8 := Below.grown (by (repeat' (first | with_reducible exact Below.refl _ _ | with_reducible assumption | (with_reducible refine Below.setCell ?_ ?_ _) | (with_reducible refine Below.alloc ?_ ?_ _) | (with_reducible refine below_drewN ?_ _) | (with_reducible refine Below.drew ?_) | omega | (simp; done) | (simp; omega)))) hg8 (by first | (simp; omega) | omega) (fun g hg => (hrow8 g hg).1)
          have hRp8 : false = false → RepL w8 lo hi ((D ++ [x]).flatMap cFiles) (us ++ [.string ⟨x.path.toArray⟩, .slice A2 x.text.length c2]) := by
            intro hpf
            rw [List.flatMap_append]
            first
            | (cases hpf; done)
            | exact RepL.append ((hRp.out (by first | rfl | trivial)).same hsA) (show RepL w8 lo hi (cFiles x) _ from RepL.cons (.str _) (RepL.cons (RXwo.out.same hsA) (RepL.nil _ _ _)))
          have HRp8 := Lib.hid hRp8
          have HL8 := Lib.hid hL8
          have HR8 := Lib.hid hr8
          have HO8 := Lib.hid hown8
          clear hL8 hr8 hown8 hg8 hat8 hrow8 hsA hsB hownD hRp8
          go_wp2
          go_roundw
          case rel => exact ⟨k + 1, false, D ++ [x], _, A8, _, c8, lo2, hi2, by omega, by go_num, rfl, rfl, by simp, by simp; omega, Hd2, Hc2, HRp8, HL8, Lib.hid (by have := HO8.out; simpa using this), hb8, by omega, by omega, HR8⟩
          case measure => simp [intOf]; omega
        · have htl : ltS x.path f.path = false := by simpa using hlt
          have hset := setF_first (x := x) (f := f) (a := xs.take k) (by have := hcond.out; simpa using this) htl
          have hc2 : ∃ y ∈ xs.take (k + 1), ltS y.path f.path = false := ⟨x, Hmem.out, htl⟩
          have Hc2 := Lib.hid (show if true = true then ∃ y ∈ xs.take (k + 1), ltS y.path f.path = false else ∀ y ∈ xs.take (k + 1), ltS y.path f.path = true by simpa using hc2)
          have hD0 : D = xs.take k := by have := hD.out; simpa using this
          have hDk : D.length ≤ k := by rw [hD0]; exact List.length_take_le _ _
          rw [← hD0] at hset
          have Hset := Lib.hid hset
          have HD0 := Lib.hid hD0
          have G0 := Lib.hid g0
          have G1 := Lib.hid g1
          have hh1o : hi1 ≤ wo.heap.size := by omega
          have hb1lt : b1 < W0.heap.size := by omega
          clear hlt hc2 hset hD0
          unfold ltS at htl
          go_wp2
          go_quiet (fail)
          go_wp2
          refine name_world ?_
          intro wp hwp
          have hbp : Below W0.heap.size W0 wp := by rw [hwp]; exact below_drewN hbo _
          have hsame : wp.heap = wo.heap := by rw [hwp]; rfl
          have hszp : W0.heap.size ≤ wp.heap.size := hbp.size
          have hbpt : w.heap.size < wp.heap.size := by omega
          have hh1p : hi1 ≤ wp.heap.size := by omega
          have hhrp : hi ≤ wp.heap.size := by omega
          have hownp : Hid (wp.ownsRow W0.heap.size 48 2 (.slice A' D.length c') D.length us) := Lib.hid (ownsRow_same hown.out (fun q _ => by rw [hsame]))
          have hRpp : Hid (RepL wp lo hi (D.flatMap cFiles) us) := Lib.hid ((hRp.out (by first | rfl | trivial)).same (fun q _ _ => by rw [hsame]))
          have RXwp := Lib.hid (RXwo.out.same (w' := wp) (fun q _ _ => by rw [hsame]))
          have t0 : wp.cell? ⟨w.heap.size, 0, none⟩ = some (.string ⟨f.path.toArray⟩) := (hbp.cell (p := ⟨w.heap.size, 0, none⟩) hz0).trans q0
          have t1 : wp.cell? ⟨w.heap.size, 1, none⟩ = some (.slice A1 f.text.length c1) := (hbp.cell (p := ⟨w.heap.size, 1, none⟩) hz0).trans q1
          have G0 := Lib.hid t0
          have G1 := Lib.hid t1
          have D0 := Lib.hid ((hbo.cell (p := ⟨b1, o1 + k * 2, none⟩) hb1lt).symm.trans d0)
          have D1 := Lib.hid ((hbo.cell (p := ⟨b1, o1 + k * 2 + 1, none⟩) hb1lt).symm.trans d1)
          clear hwp hsame hb hsz g0 g1 d0 d1 hbo hszo hT hapart hh2 hown hRp RXwo
          have M1 : ((wp.alloc (Obj.cells #[] 9)).drew).ownsRow wp.heap.size 9 1 (.slice (some ⟨wp.heap.size, 0, none⟩) 0 0) 0 [] := World.ownsRow_made wp #[] 0 (Nat.le_refl _) (Nat.zero_le _) rfl
          go_region_held3 (fun w' => w'.cell? ⟨w.heap.size, 0, none⟩ = some (.string ⟨f.path.toArray⟩) ∧ w'.cell? ⟨w.heap.size, 1, none⟩ = some (.slice A1 f.text.length c1)) (first | trivial | exact ⟨cy0, cy1⟩ | exact ⟨cw0, cw1⟩ | go_keep) (first
            | (
               refine step_append_src _ (by rfl) (.tmp 30) (.tmp 32) _ (by rfl) wp.heap.size 9 is _ 1 16 Tryz.underlying38 si0 si1 si2 si3 (by rfl) (by omega) _ 0 [] (by rfl) M1 A1 f.text.length c1 _ (by rfl) (Text.src ((HT.keep hbp hh1W).keep (B := wp.heap.size) (by (repeat' (first | with_reducible exact Below.refl _ _ | with_reducible assumption | (with_reducible refine Below.setCell ?_ ?_ _) | (with_reducible refine Below.alloc ?_ ?_ _) | (with_reducible refine below_drewN ?_ _) | (with_reducible refine Below.drew ?_) | omega | (simp; done) | (simp; omega)))) hh1p)) (texts_one _) (by unfold maxLen; omega) (by omega) (by first | omega | (simp; done) | (simp; omega)) ?_
               intro A5 c5 w5 hown5 hg5 hat5
               change World.grownBy _ w5 (Value.slice (some ⟨wp.heap.size, 0, none⟩) 0 0).ownBlock at hg5
               rw [Nat.zero_add] at hown5
               have hb5 : Below wp.heap.size wp w5 := Below.grown (by (repeat' (first | with_reducible exact Below.refl _ _ | with_reducible assumption | (with_reducible refine Below.setCell ?_ ?_ _) | (with_reducible refine Below.alloc ?_ ?_ _) | (with_reducible refine below_drewN ?_ _) | (with_reducible refine Below.drew ?_) | omega | (simp; done) | (simp; omega)))) hg5 (by first | omega | (simp; done) | (simp; omega)) (fun g hg => by simp [Value.ownBlock] at hg; omega)
               have cw0 : w5.cell? ⟨w.heap.size, 0, none⟩ = some (.string ⟨f.path.toArray⟩) := (hb5.cell (p := ⟨w.heap.size, 0, none⟩) hbpt).trans G0.out
               have cw1 : w5.cell? ⟨w.heap.size, 1, none⟩ = some (.slice A1 f.text.length c1) := (hb5.cell (p := ⟨w.heap.size, 1, none⟩) hbpt).trans G1.out)
            | (
               have hown7 := ownsRow_same (w' := w5) hownp.out (fun q hq => hb5.block q (hownp.out.lt q (by simpa using hq)).2)
               refine step_append_src _ (by rfl) (.tmp 27) (.tmp 35) _ (by rfl) W0.heap.size 48 ih _ 2 40 Tryz.underlying26 gi0 gi1 gi2 gi3 (by rfl) (by omega) _ (D.length) us (by rfl) (hown7.alloc _) _ 1 1 [.string ⟨f.path.toArray⟩, .slice A5 f.text.length c5] (by rfl) (Src.lit w5 48 [.string ⟨f.path.toArray⟩, .slice A5 f.text.length c5] 2 1 rfl) (by intro u hu; simp at hu; rcases hu with rfl | rfl <;> rfl) (by unfold maxLen; omega) (by omega) (by have := hb5.size; simp at *; omega) ?_
               clear hown7
               intro A7 c7 w7 hown7 hg7 hat7
               change World.grownBy _ w7 (Value.slice A' (D.length) c').ownBlock at hg7
               change _ = (Value.slice A' (D.length) c').ownBlock ∨ _ at hat7
               have cy0 : w7.cell? ⟨w.heap.size, 0, none⟩ = some (.string ⟨f.path.toArray⟩) := (World.cell?_of_block ((hg7.block _ (by simp; have := hb5.size; simp at *; omega) hboxne).trans (Below.heap_alloc w5 _ _ (by have := hb5.size; simp at *; omega)))).trans cw0
               have cy1 : w7.cell? ⟨w.heap.size, 1, none⟩ = some (.slice A1 f.text.length c1) := (World.cell?_of_block ((hg7.block _ (by simp; have := hb5.size; simp at *; omega) hboxne).trans (Below.heap_alloc w5 _ _ (by have := hb5.size; simp at *; omega)))).trans cw1))
          have hs5 := hb5.size
          have hf5 : Fresh w5 wp.heap.size w5.heap.size (encText f.text) (.slice A5 f.text.length c5) := Fresh.of_row hown5 (owns_strs _ _)
          have hbX := (hbp.trans (hb5.mono hszp)).alloc (Nat.le_trans hszp hs5) (Obj.cells #[.string ⟨f.path.toArray⟩, .slice A5 f.text.length c5] 48)
          have hb7 := hbX.grown hg7 (by simp; omega) (fun g hg => (hownp.out.lt g hg).1)
          have hrow7 : ∀ g, (Value.slice A' D.length c').ownBlock = some g → W0.heap.size ≤ g ∧ g < wp.heap.size := fun g hg => hownp.out.lt g hg
          have hL7 : Two w7 lo hi wp.heap.size w5.heap.size ((D ++ [f]).flatMap cFiles) (us ++ [.string ⟨f.path.toArray⟩, .slice A5 f.text.length c5]) := by
            rw [List.flatMap_append]
            refine Two.append (RepL.two (hRpp.out.same ?_)) ?_
            · exact fun q q1 q2 => (Same.grew (lo := lo) (hi := hi) hg7 (by omega) (fun g hg => by have := hrow7 g hg; omega) q q1 q2).trans (hb5.block q (by omega))
            · have hsm := Same.grew (lo := wp.heap.size) (hi := w5.heap.size) hg7 (Nat.le_refl _) (fun g hg => by have := hrow7 g hg; omega)
              have hr := (hf5.rep).same hsm
              exact RepL.two' (show RepL w7 wp.heap.size w5.heap.size (cFiles f) _ from RepL.cons (.str _) (RepL.cons hr (RepL.nil _ _ _)))
          have hs7 := hg7.size
          simp at hs7
          have hr7 : ∀ g, (Value.slice A7 (D.length + 1) c7).ownBlock = some g → g < wp.heap.size ∨ w5.heap.size ≤ g := fun g hg => by
            rcases hat7 with e | e
            · left; exact (hrow7 g (e.symm.trans hg)).2
            · right; rw [e] at hg; have := Option.some.inj hg; (try simp at this); omega
          have HL7 := Lib.hid hL7
          have HR7 := Lib.hid hr7
          have HO7 := Lib.hid hown7
          clear hL7 hr7 hown7 hg7 hat7 hown5 hg5 hat5 hf5 hbX M1 hrow7

          have e0 : w7.cell? ⟨b1, o1 + k * 2, none⟩ = some (.string ⟨x.path.toArray⟩) := (hb7.cell (p := ⟨b1, o1 + k * 2, none⟩) hb1lt).trans D0.out
          have e1 : w7.cell? ⟨b1, o1 + k * 2 + 1, none⟩ = some (.slice A2 x.text.length c2) := (hb7.cell (p := ⟨b1, o1 + k * 2 + 1, none⟩) hb1lt).trans D1.out
          have y0 : w7.cell? ⟨w.heap.size, 0, none⟩ = some (.string ⟨f.path.toArray⟩) := (hb7.cell (p := ⟨w.heap.size, 0, none⟩) hz0).trans q0
          have RXw7 := Lib.hid (RXwp.out.same (w' := w7) (fun q _ q2 => (hb7.block q (by omega)).trans (hbp.block q (by omega)).symm))
          have hsz7 := hb7.size
          clear t0 t1 cy0 cy1 cw0 cw1
          by_cases he : x.path = f.path
          · have hne2 : (x.path == f.path) = true := by simpa using he
            have hset2 : D ++ [f] = if true = true then setF (xs.take (k + 1)) f else xs.take (k + 1) := by rw [Hstep.out, ← HD0.out, Hset.out, if_pos rfl, if_pos he]; simp
            have Hd2 := Lib.hid hset2
            clear hset2 he
            go_wp2
            go_quiet (fail)
            go_wp2
            go_roundw
            case rel => exact ⟨k + 1, true, D ++ [f], _, A7, _, c7, wp.heap.size, w5.heap.size, by omega, by go_num, rfl, rfl, by simp, by simp; omega, Hd2, Hc2, Lib.hid (fun e => by cases e), Lib.hid (Two.same HL7.out (fun _ _ _ => rfl) (fun _ _ _ => rfl)), Lib.hid (ownsRow_same HO7.out (fun _ _ => rfl)), below_drewN hb7 _, by omega, by first | omega | (simp; omega), HR7⟩
            case measure => simp [intOf]; omega
          · have hne2 : (x.path == f.path) = false := by simpa using he
            have hset2 : D ++ [f] ++ [x] = if true = true then setF (xs.take (k + 1)) f else xs.take (k + 1) := by rw [Hstep.out, ← HD0.out, Hset.out, if_pos rfl, if_neg he]
            have Hd2 := Lib.hid hset2
            clear hset2 he
            go_wp2
            go_quiet (fail)
            have hownD : ∀ W : World, W.heap = w7.heap → W.ownsRow W0.heap.size 48 2 (.slice A7 (D.length + 1) c7) (D.length + 1) ((us ++ [.string ⟨f.path.toArray⟩, .slice A5 f.text.length c5])) := fun W e => ownsRow_same HO7.out (fun q _ => by rw [e])
            have hszD : ∀ W : World, W.heap = w7.heap → W.heap.size = w7.heap.size := fun W e => by rw [e]
            have HszD := Lib.hid hszD
            clear hszD
            go_wp2_with (at_builtin; refine wpList_append_src _ rfl (.tmp 45) (.tmp 50) _ rfl W0.heap.size 48 ih _ 2 40 Tryz.underlying26 gi0 gi1 gi2 gi3 rfl (by omega) _ (D.length + 1) _ rfl (World.ownsRow.alloc (hownD _ rfl) _) _ 1 1 [.string ⟨x.path.toArray⟩, .slice A2 x.text.length c2] rfl (Src.lit _ 48 [.string ⟨x.path.toArray⟩, .slice A2 x.text.length c2] 2 1 rfl) ?e2 ?e3 ?e4 ?e5 ?_)
            case e2 => intro u hu; simp at hu; rcases hu with rfl | rfl <;> rfl
            case e3 => unfold maxLen; omega
            case e4 => omega
            case e5 => first | omega | (simp; omega)
            intro A8 c8 w8 hown8 hg8 hat8
            have hrow8 : ∀ g, (Value.slice A7 (D.length + 1) c7).ownBlock = some g → W0.heap.size ≤ g ∧ g < w7.heap.size := fun g hg => World.ownsRow.lt HO7.out g hg
            have hsA : Same lo hi w7 w8 := Same.grewFrom hg8 rfl (by omega) (fun g hg => by have := hrow8 g hg; omega)
            have hsB : Same wp.heap.size w5.heap.size w7 w8 := Same.grewFrom hg8 rfl (by omega) (fun g hg => HR7.out g hg)
            have hs8 := hg8.size
            simp at hs8
            have hL8 : Two w8 lo hi wp.heap.size w5.heap.size (((D ++ [f]) ++ [x]).flatMap cFiles) ((us ++ [.string ⟨f.path.toArray⟩, .slice A5 f.text.length c5]) ++ [.string ⟨x.path.toArray⟩, .slice A2 x.text.length c2]) := by
              rw [List.flatMap_append]
              exact Two.append (Two.same HL7.out hsA hsB) (RepL.two (show RepL w8 lo hi (cFiles x) _ from RepL.cons (.str _) (RepL.cons (RXw7.out.same hsA) (RepL.nil _ _ _))))
            have hr8 : ∀ g, (Value.slice A8 (D.length + 1 + 1) c8).ownBlock = some g → g < wp.heap.size ∨ w5.heap.size ≤ g := fun g hg => by
              rcases hat8 with e | e
              · exact HR7.out g (e.symm.trans hg)
              · right; rw [e] at hg; have := Option.some.inj hg; (try simp at this); omega
            have hb8 : Below W0.heap.size W0 w8 := Below.grown (by (repeat' (first | with_reducible exact Below.refl _ _ | with_reducible assumption | (with_reducible refine Below.setCell ?_ ?_ _) | (with_reducible refine Below.alloc ?_ ?_ _) | (with_reducible refine below_drewN ?_ _) | (with_reducible refine Below.drew ?_) | omega | (simp; done) | (simp; omega)))) hg8 (by first | (simp; omega) | omega) (fun g hg => (hrow8 g hg).1)
            have hRp8 : true = false → RepL w8 lo hi (((D ++ [f]) ++ [x]).flatMap cFiles) ((us ++ [.string ⟨f.path.toArray⟩, .slice A5 f.text.length c5]) ++ [.string ⟨x.path.toArray⟩, .slice A2 x.text.length c2]) := by
              intro hpf
              rw [List.flatMap_append]
              first
              | (cases hpf; done)
              | exact RepL.append ((hRp.out (by first | rfl | trivial)).same hsA) (show RepL w8 lo hi (cFiles x) _ from RepL.cons (.str _) (RepL.cons (RXw7.out.same hsA) (RepL.nil _ _ _)))
            have HRp8 := Lib.hid hRp8
            have HL8 := Lib.hid hL8
            have HR8 := Lib.hid hr8
            have HO8 := Lib.hid hown8
            clear hL8 hr8 hown8 hg8 hat8 hrow8 hsA hsB hownD hRp8
            go_wp2
            go_roundw
            case rel => exact ⟨k + 1, true, (D ++ [f]) ++ [x], _, A8, _, c8, wp.heap.size, w5.heap.size, by omega, by go_num, rfl, rfl, by simp, by simp; omega, Hd2, Hc2, HRp8, HL8, Lib.hid (by have := HO8.out; simpa using this), hb8, by omega, by omega, HR8⟩
            case measure => simp [intOf]; omega
      · have hex : ∃ y ∈ xs.take k, ltS y.path f.path = false := by have := hcond.out; simpa using this
        have hc2 : ∃ y ∈ xs.take (k + 1), ltS y.path f.path = false := by
          obtain ⟨y, hy, hy2⟩ := hex
          exact ⟨y, by rw [Hstep.out]; exact List.mem_append_left _ hy, hy2⟩
        have Hc2 := Lib.hid (show if true = true then ∃ y ∈ xs.take (k + 1), ltS y.path f.path = false else ∀ y ∈ xs.take (k + 1), ltS y.path f.path = true by simpa using hc2)
        have hset := setF_prefix (x := x) (f := f) (a := xs.take k) hex
        have hD0 : D = setF (xs.take k) f := by have := hD.out; simpa using this
        rw [← hD0] at hset
        have Hset := Lib.hid hset
        clear hex hc2 hset hD0
        by_cases he : x.path = f.path
        · have hne2 : (x.path == f.path) = true := by simpa using he
          have hset2 : D = if true = true then setF (xs.take (k + 1)) f else xs.take (k + 1) := by rw [Hstep.out, Hset.out, if_pos rfl, if_pos he]; simp
          have Hd2 := Lib.hid hset2
          clear hset2 he
          go_wp2
          go_quiet (fail)
          go_wp2
          go_quiet (fail)
          go_wp2
          go_roundw
          case rel => exact ⟨k + 1, true, D, us, A', _, c', lo2, hi2, by omega, by go_num, rfl, rfl, rfl, by omega, Hd2, Hc2, Lib.hid (fun e => by cases e), Lib.hid (Two.same hT.out (fun _ _ _ => rfl) (fun _ _ _ => rfl)), Lib.hid (ownsRow_same hown.out (fun _ _ => rfl)), below_drewN hbo _, by omega, by first | omega | (simp; omega), hapart⟩
          case measure => simp [intOf]; omega
        · have hne2 : (x.path == f.path) = false := by simpa using he
          have hset2 : D ++ [x] = if true = true then setF (xs.take (k + 1)) f else xs.take (k + 1) := by rw [Hstep.out, Hset.out, if_pos rfl, if_neg he]
          have Hd2 := Lib.hid hset2
          clear hset2 he
          go_wp2
          go_quiet (fail)
          go_wp2
          go_quiet (fail)
          have hownD : ∀ W : World, W.heap = wo.heap → W.ownsRow W0.heap.size 48 2 (.slice A' (D.length) c') (D.length) (us) := fun W e => ownsRow_same hown.out (fun q _ => by rw [e])
          have hszD : ∀ W : World, W.heap = wo.heap → W.heap.size = wo.heap.size := fun W e => by rw [e]
          have HszD := Lib.hid hszD
          clear hszD
          go_wp2_with (at_builtin; refine wpList_append_src _ rfl (.tmp 45) (.tmp 50) _ rfl W0.heap.size 48 ih _ 2 40 Tryz.underlying26 gi0 gi1 gi2 gi3 rfl (by omega) _ (D.length) _ rfl (World.ownsRow.alloc (hownD _ rfl) _) _ 1 1 [.string ⟨x.path.toArray⟩, .slice A2 x.text.length c2] rfl (Src.lit _ 48 [.string ⟨x.path.toArray⟩, .slice A2 x.text.length c2] 2 1 rfl) ?e2 ?e3 ?e4 ?e5 ?_)
          case e2 => intro u hu; simp at hu; rcases hu with rfl | rfl <;> rfl
          case e3 => unfold maxLen; omega
          case e4 => omega
          case e5 => first | omega | (simp; omega)
          intro A8 c8 w8 hown8 hg8 hat8
          have hrow8 : ∀ g, (Value.slice A' (D.length) c').ownBlock = some g → W0.heap.size ≤ g ∧ g < wo.heap.size := fun g hg => World.ownsRow.lt hown.out g hg
          have hsA : Same lo hi wo w8 := Same.grewFrom hg8 rfl (by omega) (fun g hg => by have := hrow8 g hg; omega)
          have hsB : Same lo2 hi2 wo w8 := Same.grewFrom hg8 rfl (by omega) (fun g hg => hapart.out g hg)
          have hs8 := hg8.size
          simp at hs8
          have hL8 : Two w8 lo hi lo2 hi2 ((D ++ [x]).flatMap cFiles) (us ++ [.string ⟨x.path.toArray⟩, .slice A2 x.text.length c2]) := by
            rw [List.flatMap_append]
            exact Two.append (Two.same hT.out hsA hsB) (RepL.two (show RepL w8 lo hi (cFiles x) _ from RepL.cons (.str _) (RepL.cons (RXwo.out.same hsA) (RepL.nil _ _ _))))
          have hr8 : ∀ g, (Value.slice A8 (D.length + 1) c8).ownBlock = some g → g < lo2 ∨ hi2 ≤ g := fun g hg => by
            rcases hat8 with e | e
            · exact hapart.out g (e.symm.trans hg)
            · right; rw [e] at hg; have := Option.some.inj hg; (try simp at this); omega
          have hb8 : Below W0.heap.size W0 w8 := Below.grown (by (repeat' (first | with_reducible exact Below.refl _ _ | with_reducible assumption | (with_reducible refine Below.setCell ?_ ?_ _) | (with_reducible refine Below.alloc ?_ ?_ _) | (with_reducible refine below_drewN ?_ _) | (with_reducible refine Below.drew ?_) | omega | (simp; done) | (simp; omega)))) hg8 (by first | (simp; omega) | omega) (fun g hg => (hrow8 g hg).1)
          have hRp8 : true = false → RepL w8 lo hi ((D ++ [x]).flatMap cFiles) (us ++ [.string ⟨x.path.toArray⟩, .slice A2 x.text.length c2]) := by
            intro hpf
            rw [List.flatMap_append]
            first
            | (cases hpf; done)
            | exact RepL.append ((hRp.out (by first | rfl | trivial)).same hsA) (show RepL w8 lo hi (cFiles x) _ from RepL.cons (.str _) (RepL.cons (RXwo.out.same hsA) (RepL.nil _ _ _)))
          have HRp8 := Lib.hid hRp8
          have HL8 := Lib.hid hL8
          have HR8 := Lib.hid hr8
          have HO8 := Lib.hid hown8
          clear hL8 hr8 hown8 hg8 hat8 hrow8 hsA hsB hownD hRp8
          go_wp2
          go_roundw
          case rel => exact ⟨k + 1, true, D ++ [x], _, A8, _, c8, lo2, hi2, by omega, by go_num, rfl, rfl, by simp, by simp; omega, Hd2, Hc2, HRp8, HL8, Lib.hid (by have := HO8.out; simpa using this), hb8, by omega, by omega, HR8⟩
          case measure => simp [intOf]; omega
    · obtain rfl : k = xs.length := by omega
      have htk : xs.take xs.length = xs := List.take_length
      rw [htk] at hD hcond
      cases pb
      · have hD0 : D = xs := by have := hD.out; simpa using this
        have hset : setF xs f = D ++ [f] := by rw [hD0]; exact setF_last (by have := hcond.out; simpa using this)
        have Hset := Lib.hid hset
        have hDk : D.length ≤ xs.length := by rw [hD0]; exact Nat.le_refl _
        obtain ⟨wo, rfl⟩ : ∃ wo : World, wo = wr := ⟨_, rfl⟩
        clear hset hD0 htk
        go_wp2
        refine name_world ?_
        intro wp hwp
        have hbp : Below W0.heap.size W0 wp := by rw [hwp]; exact hb
        have hsame : wp.heap = wo.heap := by rw [hwp]
        have hszp : W0.heap.size ≤ wp.heap.size := hbp.size
        have hbpt : w.heap.size < wp.heap.size := by omega
        have hh1p : hi1 ≤ wp.heap.size := by omega
        have hhrp : hi ≤ wp.heap.size := by omega
        have hownp : Hid (wp.ownsRow W0.heap.size 48 2 (.slice A' D.length c') D.length us) := Lib.hid (ownsRow_same hown.out (fun q _ => by rw [hsame]))
        have hRpp : Hid (RepL wp lo hi (D.flatMap cFiles) us) := Lib.hid ((hRp.out (by first | rfl | trivial)).same (fun q _ _ => by rw [hsame]))
        have t0 : wp.cell? ⟨w.heap.size, 0, none⟩ = some (.string ⟨f.path.toArray⟩) := (hbp.cell (p := ⟨w.heap.size, 0, none⟩) hz0).trans q0
        have t1 : wp.cell? ⟨w.heap.size, 1, none⟩ = some (.slice A1 f.text.length c1) := (hbp.cell (p := ⟨w.heap.size, 1, none⟩) hz0).trans q1
        have G0 := Lib.hid t0
        have G1 := Lib.hid t1
        clear hwp hsame hb hsz g0 g1 hT hapart hh2 hown hRp
        have M1 : ((wp.alloc (Obj.cells #[] 9)).drew).ownsRow wp.heap.size 9 1 (.slice (some ⟨wp.heap.size, 0, none⟩) 0 0) 0 [] := World.ownsRow_made wp #[] 0 (Nat.le_refl _) (Nat.zero_le _) rfl
        go_region_held3 (fun w' => w'.cell? ⟨w.heap.size, 0, none⟩ = some (.string ⟨f.path.toArray⟩) ∧ w'.cell? ⟨w.heap.size, 1, none⟩ = some (.slice A1 f.text.length c1)) (first | trivial | exact ⟨cy0, cy1⟩ | exact ⟨cw0, cw1⟩ | go_keep) (first
          | (
             refine step_append_src _ (by rfl) (.tmp 57) (.tmp 59) _ (by rfl) wp.heap.size 9 is _ 1 16 Tryz.underlying38 si0 si1 si2 si3 (by rfl) (by omega) _ 0 [] (by rfl) M1 A1 f.text.length c1 _ (by rfl) (Text.src ((HT.keep hbp hh1W).keep (B := wp.heap.size) (by (repeat' (first | with_reducible exact Below.refl _ _ | with_reducible assumption | (with_reducible refine Below.setCell ?_ ?_ _) | (with_reducible refine Below.alloc ?_ ?_ _) | (with_reducible refine below_drewN ?_ _) | (with_reducible refine Below.drew ?_) | omega | (simp; done) | (simp; omega)))) hh1p)) (texts_one _) (by unfold maxLen; omega) (by omega) (by first | omega | (simp; done) | (simp; omega)) ?_
             intro A5 c5 w5 hown5 hg5 hat5
             change World.grownBy _ w5 (Value.slice (some ⟨wp.heap.size, 0, none⟩) 0 0).ownBlock at hg5
             rw [Nat.zero_add] at hown5
             have hb5 : Below wp.heap.size wp w5 := Below.grown (by (repeat' (first | with_reducible exact Below.refl _ _ | with_reducible assumption | (with_reducible refine Below.setCell ?_ ?_ _) | (with_reducible refine Below.alloc ?_ ?_ _) | (with_reducible refine below_drewN ?_ _) | (with_reducible refine Below.drew ?_) | omega | (simp; done) | (simp; omega)))) hg5 (by first | omega | (simp; done) | (simp; omega)) (fun g hg => by simp [Value.ownBlock] at hg; omega)
             have cw0 : w5.cell? ⟨w.heap.size, 0, none⟩ = some (.string ⟨f.path.toArray⟩) := (hb5.cell (p := ⟨w.heap.size, 0, none⟩) hbpt).trans G0.out
             have cw1 : w5.cell? ⟨w.heap.size, 1, none⟩ = some (.slice A1 f.text.length c1) := (hb5.cell (p := ⟨w.heap.size, 1, none⟩) hbpt).trans G1.out)
          | (
             have hown7 := ownsRow_same (w' := w5) hownp.out (fun q hq => hb5.block q (hownp.out.lt q (by simpa using hq)).2)
             refine step_append_src _ (by rfl) (.tmp 54) (.tmp 62) _ (by rfl) W0.heap.size 48 ih _ 2 40 Tryz.underlying26 gi0 gi1 gi2 gi3 (by rfl) (by omega) _ (D.length) us (by rfl) (hown7.alloc _) _ 1 1 [.string ⟨f.path.toArray⟩, .slice A5 f.text.length c5] (by rfl) (Src.lit w5 48 [.string ⟨f.path.toArray⟩, .slice A5 f.text.length c5] 2 1 rfl) (by intro u hu; simp at hu; rcases hu with rfl | rfl <;> rfl) (by unfold maxLen; omega) (by omega) (by have := hb5.size; simp at *; omega) ?_
             clear hown7
             intro A7 c7 w7 hown7 hg7 hat7
             change World.grownBy _ w7 (Value.slice A' (D.length) c').ownBlock at hg7
             change _ = (Value.slice A' (D.length) c').ownBlock ∨ _ at hat7
             have cy0 : w7.cell? ⟨w.heap.size, 0, none⟩ = some (.string ⟨f.path.toArray⟩) := (World.cell?_of_block ((hg7.block _ (by simp; have := hb5.size; simp at *; omega) hboxne).trans (Below.heap_alloc w5 _ _ (by have := hb5.size; simp at *; omega)))).trans cw0
             have cy1 : w7.cell? ⟨w.heap.size, 1, none⟩ = some (.slice A1 f.text.length c1) := (World.cell?_of_block ((hg7.block _ (by simp; have := hb5.size; simp at *; omega) hboxne).trans (Below.heap_alloc w5 _ _ (by have := hb5.size; simp at *; omega)))).trans cw1))
        have hs5 := hb5.size
        have hf5 : Fresh w5 wp.heap.size w5.heap.size (encText f.text) (.slice A5 f.text.length c5) := Fresh.of_row hown5 (owns_strs _ _)
        have hbX := (hbp.trans (hb5.mono hszp)).alloc (Nat.le_trans hszp hs5) (Obj.cells #[.string ⟨f.path.toArray⟩, .slice A5 f.text.length c5] 48)
        have hb7 := hbX.grown hg7 (by simp; omega) (fun g hg => (hownp.out.lt g hg).1)
        have hrow7 : ∀ g, (Value.slice A' D.length c').ownBlock = some g → W0.heap.size ≤ g ∧ g < wp.heap.size := fun g hg => hownp.out.lt g hg
        have hL7 : Two w7 lo hi wp.heap.size w5.heap.size ((D ++ [f]).flatMap cFiles) (us ++ [.string ⟨f.path.toArray⟩, .slice A5 f.text.length c5]) := by
          rw [List.flatMap_append]
          refine Two.append (RepL.two (hRpp.out.same ?_)) ?_
          · exact fun q q1 q2 => (Same.grew (lo := lo) (hi := hi) hg7 (by omega) (fun g hg => by have := hrow7 g hg; omega) q q1 q2).trans (hb5.block q (by omega))
          · have hsm := Same.grew (lo := wp.heap.size) (hi := w5.heap.size) hg7 (Nat.le_refl _) (fun g hg => by have := hrow7 g hg; omega)
            have hr := (hf5.rep).same hsm
            exact RepL.two' (show RepL w7 wp.heap.size w5.heap.size (cFiles f) _ from RepL.cons (.str _) (RepL.cons hr (RepL.nil _ _ _)))
        have hs7 := hg7.size
        simp at hs7
        have hr7 : ∀ g, (Value.slice A7 (D.length + 1) c7).ownBlock = some g → g < wp.heap.size ∨ w5.heap.size ≤ g := fun g hg => by
          rcases hat7 with e | e
          · left; exact (hrow7 g (e.symm.trans hg)).2
          · right; rw [e] at hg; have := Option.some.inj hg; (try simp at this); omega
        have HL7 := Lib.hid hL7
        have HR7 := Lib.hid hr7
        have HO7 := Lib.hid hown7
        clear hL7 hr7 hown7 hg7 hat7 hown5 hg5 hat5 hf5 hbX M1 hrow7
        go_wp2
        go_ret
        have hfin := (HL7.out.repL (lo' := lo) (hi' := w7.heap.size) (Nat.le_refl _) (by omega) (by omega) (by omega)).row HO7.out (by omega) (Nat.le_refl _)
        refine ⟨_, _, _, rfl, hb0.trans (hb7.mono (by omega)), ?_⟩
        rw [Hset.out]
        exact hfin
      · have hD0 : D = setF xs f := by have := hD.out; simpa using this
        have hfin := (hT.out.repL (lo' := lo) (hi' := wr.heap.size) (Nat.le_refl _) (by omega) (by omega) (by omega)).row hown.out (by omega) (Nat.le_refl _)
        rw [hD0] at hfin
        have Hfin := Lib.hid hfin
        have HD0 := Lib.hid hD0
        clear hfin hD0 htk hT hown
        go_wp2
        go_ret
        exact ⟨_, _, _, rfl, hb0.trans (hb.mono (by omega)), by rw [← HD0.out] at Hfin ⊢; exact Hfin.out⟩
end Go.Proofs.YtmickenajhppoaaGreatDoor
