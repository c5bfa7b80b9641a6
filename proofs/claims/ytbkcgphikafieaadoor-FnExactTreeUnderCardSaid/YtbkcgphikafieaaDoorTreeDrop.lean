/- Walks: the program's isAt; a tree without what is at a path, and the paths at it: TreeDrop, TreeUnder, the program's and the reference's. -/
import Derived.Test.YtbkcgphikafieaaDoorTreeGet
import Derived.Test.YtbkcgphikafieaaDoorRepL
import Derived.Test.YtbkcgphikafieaaDoorTree
import Derived.Test.YtbkcgphikafieaaDoorTree2
namespace Go.Proofs.YtbkcgphikafieaaDoor
open Go.RowKit

/-- Is a file of the path f at the path p, or below it? -/
def atOr (f p : Str) : Bool := decide (f = p) || below p f

set_option maxHeartbeats 400000 in
theorem impl_isAt_any (f p : Str) (A : Option Addr) (n c : Nat) (w : World) (hf : f.length ≤ 1073741824) (hp : p.length ≤ 1073741824) :
    Calls Tryd.prog 51 #[.agg #[.string ⟨f.toArray⟩, .slice A n c], .string ⟨p.toArray⟩] w fun e w' => e = .returned (.bool (atOr f p)) ∧ Below w.heap.size w w' := by
  by_cases he : f = p
  · have hb : (f == p) = true := by simp [he]
    have hv : atOr f p = true := by simp [atOr, he]
    rw [hv]
    clear he hv
    go_enter Tryd.func51, Tryd.ntmps51
    go_wp2
    go_ret
    exact ⟨rfl, by (repeat' (first | with_reducible exact Below.refl _ _ | with_reducible assumption | (with_reducible refine Below.setCell ?_ ?_ _) | (with_reducible refine Below.alloc ?_ ?_ _) | (with_reducible refine below_drewN ?_ _) | (with_reducible refine Below.drew ?_) | omega | (simp; done) | (simp; omega)))⟩
  · have hb : (f == p) = false := by simp [he]
    have hv : atOr f p = (p ++ [47]).isPrefixOf f := by unfold atOr below; rw [decide_eq_false he]; simp
    rw [hv]
    have happ : (⟨p.toArray⟩ : ByteArray) ++ ⟨#[47]⟩ = ⟨(p ++ [47]).toArray⟩ := bytes_app p [47]
    have hc := fun w => strings_HasPrefix_any f (p ++ [47]) w (by omega) (by simp; omega)
    obtain ⟨v, ev⟩ : ∃ v, v = (p ++ [47]).isPrefixOf f := ⟨_, rfl⟩
    rw [← ev] at hc ⊢
    clear he hv ev
    go_enter Tryd.func51, Tryd.ntmps51
    go_wp2_with fail
    refine Calls.mono (hc _) ?_
    rintro e w' ⟨rfl, rfl⟩
    go_wp2
    go_ret
    exact ⟨rfl, by (repeat' (first | with_reducible exact Below.refl _ _ | with_reducible assumption | (with_reducible refine Below.setCell ?_ ?_ _) | (with_reducible refine Below.alloc ?_ ?_ _) | (with_reducible refine below_drewN ?_ _) | (with_reducible refine Below.drew ?_) | omega | (simp; done) | (simp; omega)))⟩

/-- Of the first k files some are taken; what they own is among what those own. -/
def Taken (w : World) (xs done : List PFile) (us : List Value) (G : List Nat) (k : Nat) (us' : List Value) : Prop :=
  ∃ us1 us2 G1 G2 G', us = us1 ++ us2 ∧ G = G1 ++ G2 ∧ us1.length = k * 2 ∧ Owns w ((xs.drop k).flatMap cFiles) us2 G2 ∧ G'.Sublist G1 ∧ Owns w (done.flatMap cFiles) us' G'
theorem Taken.start {w : World} {xs : List PFile} {us : List Value} {G : List Nat} (h : Owns w (xs.flatMap cFiles) us G) : Taken w xs [] us G 0 [] :=
  ⟨[], us, [], G, [], rfl, rfl, rfl, by simpa using h, List.Sublist.refl _, ⟨rfl, rfl⟩⟩
theorem Taken.open_ {w : World} {xs done : List PFile} {us us' : List Value} {G : List Nat} {k : Nat} {x : PFile} (h : Taken w xs done us G k us') (hx : xs[k]? = some x) :
    ∃ A n c, us[k * 2]? = some (.string ⟨x.path.toArray⟩) ∧ us[k * 2 + 1]? = some (.slice A n c) ∧ Taken w xs done us G (k + 1) us' ∧ Taken w xs (done ++ [x]) us G (k + 1) (us' ++ [.string ⟨x.path.toArray⟩, .slice A n c]) := by
  obtain ⟨us1, us2, G1, G2, G', rfl, rfl, hl, ho, hs, hd⟩ := h
  have hk := (List.getElem?_eq_some_iff.1 hx).1
  have hdrop : xs.drop k = x :: xs.drop (k + 1) := by
    rw [List.drop_eq_getElem_cons hk]
    rw [List.getElem?_eq_getElem hk] at hx
    rw [Option.some.inj hx]
  rw [hdrop] at ho
  obtain ⟨u0, v1, F0, H1, e1, e2, h0, u1, v2, F1, H2, e3, e4, h1, ho2⟩ := ho
  obtain ⟨rfl, rfl⟩ := h0
  obtain ⟨A, n, c, rfl⟩ := Own.shape h1
  subst e3 e4 e1 e2
  refine ⟨A, n, c, ?_, ?_, ⟨us1 ++ [.string ⟨x.path.toArray⟩, .slice A n c], v2, G1 ++ F1, H2, G', by simp, by simp, by simp [hl]; omega, ho2, hs.trans (List.sublist_append_left _ _), hd⟩,
    ⟨us1 ++ [.string ⟨x.path.toArray⟩, .slice A n c], v2, G1 ++ F1, H2, G' ++ F1, by simp, by simp, by simp [hl]; omega, ho2, hs.append (List.Sublist.refl _), ?_⟩⟩
  · rw [List.getElem?_append_right (by omega), show k * 2 - us1.length = 0 by omega]; rfl
  · rw [List.getElem?_append_right (by omega), show k * 2 + 1 - us1.length = 1 by omega]; rfl
  · rw [List.flatMap_append]
    exact hd.append ⟨_, _, [], F1, rfl, rfl, ⟨rfl, rfl⟩, _, [], F1, [], rfl, by simp, h1, rfl, rfl⟩
/-- Two cells of a row of the call's own. -/
theorem own_two {w : World} {lo e n k c : Nat} {A : Option Addr} {us : List Value} {u0 u1 : Value} (h : w.ownsRow lo e 2 (.slice A n c) n us) (h0 : us[k * 2]? = some u0) (h1 : us[k * 2 + 1]? = some u1) :
    ∃ g, A = some ⟨g, 0, none⟩ ∧ lo ≤ g ∧ g < w.heap.size ∧ w.cell? ⟨g, k * 2, none⟩ = some u0 ∧ w.cell? ⟨g, k * 2 + 1, none⟩ = some u1 := by
  have hl := h.1
  have hk := (List.getElem?_eq_some_iff.1 h1).1
  rcases h.2 with ⟨e1, e2⟩ | ⟨g, cap, cur, e1, hg, _⟩
  · subst e2; omega
  · cases e1
    have c0 := h.cells (g := g) rfl _ _ h0
    have c1 := h.cells (g := g) rfl _ _ h1
    simp only [Addr.add_lit, Nat.zero_add] at c0 c1
    exact ⟨g, rfl, hg, (h.lt g rfl).2, c0, c1⟩
/-- What is taken, in a row of the call's own. -/
theorem Taken.fresh {w w' : World} {xs done : List PFile} {us us' : List Value} {G : List Nat} {k lo n : Nat} {v : Value} (h : Taken w xs done us G k us') (hnd : G.Nodup) (hG : ∀ q ∈ G, lo ≤ q ∧ q < w.heap.size)
    (hrow : w'.ownsRow w.heap.size 49 2 v n us') (hb : Below w.heap.size w w') (hlo : lo ≤ w.heap.size) : Fresh w' lo w'.heap.size (encFiles done) v := by
  obtain ⟨us1, us2, G1, G2, G', e1, e2, hl, ho, hs, hd⟩ := h
  have hsub : ∀ q ∈ G', q ∈ G := fun q hq => by rw [e2]; exact List.mem_append_left _ (hs.subset hq)
  have hlt : ∀ q ∈ G', lo ≤ q ∧ q < w.heap.size := fun q hq => hG q (hsub q hq)
  have hnd' : G'.Nodup := (List.nodup_append.1 (e2 ▸ hnd)).1.sublist hs
  have hd' := Owns.same _ _ _ hd (w' := w') (fun q hq => hb.block q (hlt q hq).2)
  refine Fresh.row_above' hrow ⟨G', hd', hnd', hlt⟩ hlo hb.size

def treeDrop (t : List PFile) (p : Str) : List PFile := if treeOk t then t.filter (fun f => !atOr f.path p) else []
def treeUnder (t : List PFile) (p : Str) : List Str := if treeOk t then (t.filter (fun f => atOr f.path p)).map PFile.path else []
theorem filter_next {α : Type} {q : α → Bool} {xs : List α} {k : Nat} {x : α} (hx : xs[k]? = some x) : (xs.take (k + 1)).filter q = (xs.take k).filter q ++ (if q x then [x] else []) := by
  rw [List.take_add_one, hx, List.filter_append]
  congr 1
  cases hq : q x <;> simp [hq]
theorem filter_len_take {α : Type} (q : α → Bool) (xs : List α) (k : Nat) : ((xs.take k).filter q).length ≤ k := Nat.le_trans (List.length_filter_le _ _) (List.length_take_le _ _)

set_option maxRecDepth 100000 in
set_option maxHeartbeats 1600000 in
theorem impl_TreeDrop_any (A : Option Addr) (n c : Nat) (xs : List PFile) (s : Str) (w : World) (lo hi : Nat) (h1 : Rep w lo hi (encFiles xs) (.slice A n c)) (hh1 : hi ≤ w.heap.size) (ht1 : okTree xs) (hl2 : s.length ≤ 1073741824) :
    Calls Tryd.prog 31 #[.slice A n c, .string ⟨s.toArray⟩] w fun e w' => ∃ A n c, e = .returned (.tuple #[.slice A n c, .bool (treeOk xs && decide ((treeDrop xs s).length < xs.length))]) ∧ Below w.heap.size w w' ∧ Fresh w' w.heap.size w'.heap.size (encFiles (treeDrop xs s)) (.slice A n c) := by
  have hcOk := fun w lo hi h hh => impl_TreeOk_any A n c xs w lo hi h hh ht1
  have hl := Files.n h1
  subst hl
  cases ho : treeOk xs
  · have hv : treeDrop xs s = [] := by unfold treeDrop; rw [ho]; rfl
    rw [hv]
    rw [ho] at hcOk
    clear hv
    go_enter Tryd.func31, Tryd.ntmps31
    go_wp2_with fail
    refine Calls.mono (hcOk _ _ _ h1 hh1) ?_
    rintro e w1 ⟨rfl, hb1⟩
    go_wp2
    go_ret2
    exact ⟨_, _, _, rfl, hb1, Fresh.nil _ _ _ _ _⟩
  · have hv : treeDrop xs s = xs.filter (fun f => !atOr f.path s) := by unfold treeDrop; rw [ho]; rfl
    have hsm := smallTree_ok ho
    have hx8 := hsm.1
    rw [hv]
    rw [ho] at hcOk
    have hlf := List.length_filter_le (fun f : PFile => !atOr f.path s) xs
    obtain ⟨D, hD⟩ : ∃ D, D = xs.filter (fun f => !atOr f.path s) := ⟨_, rfl⟩
    rw [← hD] at hlf ⊢
    have HD := Lib.hid hD
    clear hD
    have Hs := Lib.hid ht1
    clear hv ho ht1
    obtain ⟨ih, gi0, gi1, gi2, gi3⟩ := info_parts Tryd.infoFile
    go_enter Tryd.func31, Tryd.ntmps31
    go_wp2_with fail
    refine Calls.mono (hcOk _ _ _ h1 hh1) ?_
    rintro e w1 ⟨rfl, hb1⟩
    have hs1 := hb1.size
    go_wp2_with fail
    refine Calls.mono (impl_copyTree_any _ _ _ xs w1 lo hi (h1.keep hb1 hh1) (by omega) hsm) ?_
    rintro e w2 ⟨A2, n2, c2, rfl, hb2, hf2⟩
    have hs2 := hb2.size
    have h2 := hf2.rep
    have hn2 := Files.n h2
    subst hn2
    obtain ⟨hc2, hm2⟩ := Files.cap h2
    obtain ⟨us, G, hown2, ho2, hnd2, hbd2⟩ := hf2.row_of
    have hstart := Taken.start ho2
    have hcellAt := fun (j : Nat) (u : Value) (h : us[j]? = some u) => h
    clear hsm hcOk h1 hf2 ho2 hcellAt
    go_wp2
    go_loopw [6, 15] (fun t i wr => ∃ (k : Nat) (us' : List Value) (A' : Option Addr) (n' c' : Nat), k ≤ xs.length ∧ i = .int .i64 k ∧ t = .slice A' n' c' ∧ n' = ((xs.take k).filter (fun f => !atOr f.path s)).length ∧
        Taken w2 xs ((xs.take k).filter (fun f => !atOr f.path s)) us G k us' ∧ wr.ownsRow w2.heap.size 49 2 (.slice A' n' c') n' us' ∧ Below w2.heap.size w2 wr) (fun _ i _ => xs.length - (intOf i).toNat)
    case atStart => exact ⟨0, [], none, 0, 0, Nat.zero_le _, rfl, rfl, by simp, by simpa using hstart, World.ownsRow_nil w2 _ _ _, Below.refl _ _⟩
    case round =>
      obtain ⟨k, us', A', n', c', hk, rfl, rfl, hn', hT, hown, hb⟩ := hrel
      have hsz := hb.size
      by_cases hkn : k < xs.length
      · have hkn' : (k : Int) < (xs.length : Int) := by omega
        obtain ⟨x, hx⟩ : ∃ x, xs[k]? = some x := ⟨_, List.getElem?_eq_getElem hkn⟩
        obtain ⟨Ax, nx, cx, hu0, hu1, hskip, htake⟩ := hT.open_ hx
        obtain ⟨g, rfl, hg1, hg2, e0, e1⟩ := own_two hown2 hu0 hu1
        have d0 : wr.cell? ⟨g, k * 2, none⟩ = some (.string ⟨x.path.toArray⟩) := (hb.cell (by exact hg2)).trans e0
        have d1 : wr.cell? ⟨g, k * 2 + 1, none⟩ = some (.slice Ax nx cx) := (hb.cell (by exact hg2)).trans e1
        have sx := (Hs.out x (List.mem_of_getElem? hx)).1
        have hcall := fun A n c w => impl_isAt_any x.path s A n c w sx hl2
        have hstep := filter_next (q := fun f : PFile => !atOr f.path s) hx
        have hlen := filter_len_take (fun f : PFile => !atOr f.path s) xs k
        obtain ⟨done, hdone⟩ : ∃ done, done = (xs.take k).filter (fun f => !atOr f.path s) := ⟨_, rfl⟩
        rw [← hdone] at hn' hT hskip htake hstep hlen
        have Hskip := Lib.hid hskip
        have Htake := Lib.hid htake
        subst hn'
        clear hT hx hu0 hu1 hskip htake e0 e1 hdone hstart h2 hown2 hnd2
        cases ta : atOr x.path s
        · rw [ta] at hcall hstep
          have Hstep := Lib.hid hstep
          clear hstep
          go_wp2_with fail
          refine Calls.mono (hcall _ _ _ _) ?_
          rintro e w3 ⟨rfl, hb3⟩
          have hbA : Below w2.heap.size w2 w3 := (hb.alloc hsz _).trans (hb3.mono (by simp; omega))
          have hs3 := hb3.size
          simp only [World.size_alloc] at hs3
          have hown3 := ownsRow_same (w' := w3) hown (fun q hq => by
            have := (hown.lt q (by simpa using hq)).2
            exact (hb3.block q (by simp; omega)).trans (Below.heap_alloc wr _ q this))
          have p0 : w3.cell? ⟨wr.heap.size, 0, none⟩ = some (.string ⟨x.path.toArray⟩) := by rw [hb3.cell (by simp)]; go_simp
          have p1 : w3.cell? ⟨wr.heap.size, 1, none⟩ = some (.slice Ax nx cx) := by rw [hb3.cell (by simp)]; go_simp
          clear hb3 d0 d1
          go_wp2_with (at_builtin; refine wpList_append_src _ rfl (.tmp 23) (.tmp 25) _ rfl w2.heap.size 49 ih _ 2 40 Tryd.underlying31 gi0 gi1 gi2 gi3 rfl (by omega) _ done.length _ rfl (hown3.alloc _) _ 1 1 [.string ⟨x.path.toArray⟩, .slice Ax nx cx] rfl (Src.lit w3 49 [.string ⟨x.path.toArray⟩, .slice Ax nx cx] 2 1 rfl) ?e2 ?e3 ?e4 ?e5 ?_)
          case e2 => intro u hu; simp at hu; rcases hu with rfl | rfl <;> rfl
          case e3 => unfold maxLen; omega
          case e4 => omega
          case e5 => first | omega | (simp; omega)
          intro A4 c4 w4 hown4 hg4 hat4
          have hb4 : Below w2.heap.size w2 w4 := (hbA.alloc (by omega) _).grown hg4 (by simp; omega) (fun g hg => (hown3.lt g hg).1)
          go_wp2
          go_roundw
          case rel => exact ⟨k + 1, _, A4, _, c4, by omega, by go_num, rfl, by rw [Hstep.out]; simp, by rw [Hstep.out]; exact Htake.out, hown4, hb4⟩
          case measure => simp [intOf]; omega
        · rw [ta] at hcall hstep
          have Hstep := Lib.hid hstep
          clear hstep
          go_wp2_with fail
          refine Calls.mono (hcall _ _ _ _) ?_
          rintro e w3 ⟨rfl, hb3⟩
          have hbA : Below w2.heap.size w2 w3 := (hb.alloc hsz _).trans (hb3.mono (by simp; omega))
          have hown3 := ownsRow_same (w' := w3) hown (fun q hq => by
            have := (hown.lt q (by simpa using hq)).2
            exact (hb3.block q (by simp; omega)).trans (Below.heap_alloc wr _ q this))
          go_wp2
          go_roundw
          case rel => exact ⟨k + 1, us', A', _, c', by omega, by go_num, rfl, by rw [Hstep.out]; simp, by rw [Hstep.out]; simpa using Hskip.out, hown3, hbA⟩
          case measure => simp [intOf]; omega
      · obtain rfl : k = xs.length := by omega
        rw [List.take_length, ← HD.out] at hT hn'
        subst hn'
        have hfin := hT.fresh (lo := w.heap.size) (List.nodup_append.1 hnd2).2.1 (fun q hq => by have := hbd2 q (List.mem_append_right _ hq); omega) hown hb (by omega)
        have hbf := hb1.trans ((hb2.trans (hb.mono hs2)).mono hs1)
        have Hfin := Lib.hid hfin
        clear hfin hT hstart h2 hown2 hnd2
        by_cases hlt : (D.length : Int) < (xs.length : Int)
        · have hv : decide (D.length < xs.length) = true := by simp; omega
          have Hv := Lib.hid hv
          clear hv
          go_wp2
          go_ret2
          exact ⟨_, _, _, by rw [Hv.out]; simp, hbf, Hfin.out⟩
        · have hv : decide (D.length < xs.length) = false := by simp; omega
          have Hv := Lib.hid hv
          clear hv
          go_wp2
          go_ret2
          exact ⟨_, _, _, by rw [Hv.out]; simp, hbf, Hfin.out⟩
end Go.Proofs.YtbkcgphikafieaaDoor
