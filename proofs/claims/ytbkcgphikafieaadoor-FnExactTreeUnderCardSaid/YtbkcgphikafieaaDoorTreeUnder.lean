/- Walks: the paths at a path: TreeUnder, the program's and the reference's. -/
import Derived.Test.YtbkcgphikafieaaDoorTreeDrop
namespace Go.Proofs.YtbkcgphikafieaaDoor
open Go.RowKit

def underOf (xs : List PFile) (s : Str) : List Str := (xs.filter (fun f => atOr f.path s)).map PFile.path
theorem underOf_next {xs : List PFile} {s : Str} {k : Nat} {x : PFile} (hx : xs[k]? = some x) : underOf (xs.take (k + 1)) s = underOf (xs.take k) s ++ (if atOr x.path s then [x.path] else []) := by
  unfold underOf
  rw [filter_next hx, List.map_append]
  congr 1
  split <;> simp
theorem underOf_len (xs : List PFile) (s : Str) (k : Nat) : (underOf (xs.take k) s).length ≤ k := by
  unfold underOf
  rw [List.length_map]
  exact filter_len_take _ _ _
theorem treeUnder_ok {xs : List PFile} {s : Str} (h : treeOk xs = true) : treeUnder xs s = underOf xs s := by unfold treeUnder; rw [h]; rfl
theorem treeUnder_no {xs : List PFile} {s : Str} (h : treeOk xs = false) : treeUnder xs s = [] := by unfold treeUnder; rw [h]; rfl

set_option maxRecDepth 100000 in
set_option maxHeartbeats 1600000 in
theorem impl_TreeUnder_any (A : Option Addr) (n c : Nat) (xs : List PFile) (s : Str) (w : World) (lo hi : Nat) (h1 : Rep w lo hi (encFiles xs) (.slice A n c)) (hh1 : hi ≤ w.heap.size) (ht1 : okTree xs) (hl2 : s.length ≤ 1073741824) :
    Calls Tryd.prog 23 #[.slice A n c, .string ⟨s.toArray⟩] w fun e w' => ∃ A n c, e = .returned (.slice A n c) ∧ Below w.heap.size w w' ∧ Fresh w' w.heap.size w'.heap.size (encText (treeUnder xs s)) (.slice A n c) := by
  have hcOk := fun w lo hi h hh => impl_TreeOk_any A n c xs w lo hi h hh ht1
  have hl := Files.n h1
  obtain ⟨hc, hm⟩ := Files.cap h1
  subst hl
  cases ho : treeOk xs
  · rw [treeUnder_no ho]
    rw [ho] at hcOk
    go_enter Tryd.func23, Tryd.ntmps23
    go_wp2_with fail
    refine Calls.mono (hcOk _ _ _ h1 hh1) ?_
    rintro e w1 ⟨rfl, hb1⟩
    go_wp2
    go_ret
    exact ⟨_, _, _, rfl, hb1, Fresh.nil _ _ _ _ _⟩
  · rw [treeUnder_ok ho]
    have hx8 := (smallTree_ok ho).1
    rw [ho] at hcOk
    have Hs := Lib.hid ht1
    clear ho ht1
    obtain ⟨is, si0, si1, si2, si3⟩ := info_parts Tryd.infoStr
    go_enter Tryd.func23, Tryd.ntmps23
    go_wp2_with fail
    refine Calls.mono (hcOk _ _ _ h1 hh1) ?_
    rintro e w1 ⟨rfl, hb1⟩
    have hs1 := hb1.size
    have h2 := h1.keep hb1 hh1
    have hh2 : hi ≤ w1.heap.size := by omega
    clear hcOk h1
    go_wp2
    go_loopw [5, 13] (fun t i wr => ∃ (k : Nat) (A' : Option Addr) (n' c' : Nat), k ≤ xs.length ∧ i = .int .i64 k ∧ t = .slice A' n' c' ∧ n' = (underOf (xs.take k) s).length ∧
        wr.ownsRow w1.heap.size 9 1 (.slice A' n' c') n' ((underOf (xs.take k) s).map fun x => .string ⟨x.toArray⟩) ∧ Below w1.heap.size w1 wr) (fun _ i _ => xs.length - (intOf i).toNat)
    case atStart => exact ⟨0, none, 0, 0, Nat.zero_le _, rfl, rfl, by simp [underOf], by simpa [underOf] using World.ownsRow_nil w1 _ _ _, Below.refl _ _⟩
    case round =>
      obtain ⟨k, A', n', c', hk, rfl, rfl, hn', hown, hb⟩ := hrel
      have hsz := hb.size
      by_cases hkn : k < xs.length
      · have hkn' : (k : Int) < (xs.length : Int) := by omega
        obtain ⟨b1, o1, x, rfl, _, hbhi, hx, A1, n1, c1, d0, d1, r1⟩ := Files.at (h2.keep hb hh2) hkn
        have sx := (Hs.out x (List.mem_of_getElem? hx)).1
        have hcall := fun A n c w => impl_isAt_any x.path s A n c w sx hl2
        have hstep := underOf_next (s := s) hx
        have hlen := underOf_len xs s k
        obtain ⟨done, hdone⟩ : ∃ done, done = underOf (xs.take k) s := ⟨_, rfl⟩
        rw [← hdone] at hn' hown hstep hlen
        subst hn'
        clear hx hdone
        cases ta : atOr x.path s
        · rw [ta] at hcall hstep
          have Hstep := Lib.hid hstep
          clear hstep
          go_wp2_with fail
          refine Calls.mono (hcall _ _ _ _) ?_
          rintro e w3 ⟨rfl, hb3⟩
          have hbA : Below w1.heap.size w1 w3 := (hb.alloc hsz _).trans (hb3.mono (by simp; omega))
          have hown3 := ownsRow_same (w' := w3) hown (fun q hq => by
            have := (hown.lt q (by simpa using hq)).2
            exact (hb3.block q (by simp; omega)).trans (Below.heap_alloc wr _ q this))
          go_wp2
          go_roundw
          case rel => exact ⟨k + 1, A', _, c', by omega, by go_num, rfl, by rw [Hstep.out]; simp, by rw [Hstep.out]; simpa using hown3, hbA⟩
          case measure => simp [intOf]; omega
        · rw [ta] at hcall hstep
          have Hstep := Lib.hid hstep
          clear hstep
          go_wp2_with fail
          refine Calls.mono (hcall _ _ _ _) ?_
          rintro e w3 ⟨rfl, hb3⟩
          have hbA : Below w1.heap.size w1 w3 := (hb.alloc hsz _).trans (hb3.mono (by simp; omega))
          have hs3 := hb3.size
          simp only [World.size_alloc] at hs3
          have hown3 := ownsRow_same (w' := w3) hown (fun q hq => by
            have := (hown.lt q (by simpa using hq)).2
            exact (hb3.block q (by simp; omega)).trans (Below.heap_alloc wr _ q this))
          have p0 : w3.cell? ⟨wr.heap.size, 0, none⟩ = some (.string ⟨x.path.toArray⟩) := by rw [hb3.cell (by simp)]; go_simp
          clear hb3 d0 d1
          go_wp2_with (at_builtin; refine wpList_append_src _ rfl (.tmp 20) (.tmp 23) _ rfl w1.heap.size 9 is _ 1 16 Tryd.underlying35 si0 si1 si2 si3 rfl (by omega) _ done.length _ rfl (hown3.alloc _) _ 1 1 [.string ⟨x.path.toArray⟩] rfl (Src.lit w3 9 [.string ⟨x.path.toArray⟩] 1 1 rfl) ?e2 ?e3 ?e4 ?e5 ?_)
          case e2 => first | rfl | (intro u hu; simp at hu; subst hu; rfl)
          case e3 => unfold maxLen; omega
          case e4 => omega
          case e5 => first | omega | (simp; omega)
          intro A4 c4 w4 hown4 hg4 hat4
          have hb4 : Below w1.heap.size w1 w4 := (hbA.alloc (by omega) _).grown hg4 (by simp; omega) (fun g hg => (hown3.lt g hg).1)
          go_wp2
          go_roundw
          case rel => exact ⟨k + 1, A4, _, c4, by omega, by go_num, rfl, by rw [Hstep.out]; simp, by rw [Hstep.out]; simpa using hown4, hb4⟩
          case measure => simp [intOf]; omega
      · obtain rfl : k = xs.length := by omega
        rw [List.take_length] at hn' hown
        subst hn'
        have hfin := (Fresh.of_row hown (owns_strs _ _)).mono hs1 (Nat.le_refl _)
        have Hfin := Lib.hid hfin
        clear hfin
        go_wp2
        go_ret
        exact ⟨_, _, _, rfl, hb1.trans (hb.mono hs1), Hfin.out⟩

set_option maxRecDepth 100000 in
set_option maxHeartbeats 1600000 in
theorem spec_TreeUnder_any (A : Option Addr) (n c : Nat) (xs : List PFile) (s : Str) (w : World) (lo hi : Nat) (h1 : Rep w lo hi (encFiles xs) (.slice A n c)) (hh1 : hi ≤ w.heap.size) (ht1 : okTree xs) :
    Calls Tryd.prog 22 #[.slice A n c, .string ⟨s.toArray⟩] w fun e w' => ∃ A n c, e = .returned (.slice A n c) ∧ Below w.heap.size w w' ∧ Fresh w' w.heap.size w'.heap.size (encText (treeUnder xs s)) (.slice A n c) := by
  have hcOk := fun w lo hi h hh => spec_l4Ok_any A n c xs w lo hi h hh ht1
  have hl := Files.n h1
  obtain ⟨hc, hm⟩ := Files.cap h1
  subst hl
  cases ho : treeOk xs
  · rw [treeUnder_no ho]
    rw [ho] at hcOk
    go_enter Tryd.func22, Tryd.ntmps22
    go_wp2
    go_loopw [5, 6] (fun t i wr => t = .slice (some ⟨w.heap.size, 0, none⟩) 0 0 ∧ i = .int .i64 0 ∧ wr.ownsRow w.heap.size 9 1 (.slice (some ⟨w.heap.size, 0, none⟩) 0 0) 0 [] ∧ Below w.heap.size w wr) (fun _ _ _ => 0)
    case atStart => exact ⟨rfl, rfl, World.ownsRow_made w #[] 0 (Nat.le_refl _) (Nat.zero_le _) rfl, (Below.refl _ _).alloc (Nat.le_refl _) _⟩
    case round =>
      obtain ⟨rfl, rfl, hown, hb⟩ := hrel
      have hsz := hb.size
      by_cases hx : 0 < xs.length
      · have hx' : (0 : Int) < (xs.length : Int) := by omega
        go_wp2_with fail
        refine Calls.mono (hcOk _ _ _ (h1.keep hb hh1) (by omega)) ?_
        rintro e w1 ⟨rfl, hb1⟩
        have hown1 := ownsRow_same (w' := w1) hown (fun q hq => hb1.block q (hown.lt q (by simpa using hq)).2)
        go_wp2
        go_ret
        exact ⟨_, _, _, rfl, hb.trans (hb1.mono hsz), (Fresh.of_row hown1 (owns_strs _ []))⟩
      · have hx' : ¬ (0 : Int) < (xs.length : Int) := by omega
        go_wp2
        go_ret
        exact ⟨_, _, _, rfl, hb, (Fresh.of_row hown (owns_strs _ []))⟩
  · rw [treeUnder_ok ho]
    have hx8 := (smallTree_ok ho).1
    rw [ho] at hcOk
    clear ho
    obtain ⟨is, si0, si1, si2, si3⟩ := info_parts Tryd.infoStr
    go_enter Tryd.func22, Tryd.ntmps22
    go_wp2
    go_loopw [5, 6] (fun t i wr => ∃ (k : Nat) (A' : Option Addr) (n' c' : Nat), k ≤ xs.length ∧ i = .int .i64 k ∧ t = .slice A' n' c' ∧ n' = (underOf (xs.take k) s).length ∧
        wr.ownsRow w.heap.size 9 1 (.slice A' n' c') n' ((underOf (xs.take k) s).map fun x => .string ⟨x.toArray⟩) ∧ Below w.heap.size w wr) (fun _ i _ => xs.length - (intOf i).toNat)
    case atStart => exact ⟨0, _, _, _, Nat.zero_le _, rfl, rfl, by simp [underOf], by simpa [underOf] using World.ownsRow_made w #[] 0 (Nat.le_refl _) (Nat.zero_le _) rfl, (Below.refl _ _).alloc (Nat.le_refl _) _⟩
    case round =>
      obtain ⟨k, A', n', c', hk, rfl, rfl, hn', hown, hb⟩ := hrel
      have hsz := hb.size
      by_cases hkn : k < xs.length
      · have hkn' : (k : Int) < (xs.length : Int) := by omega
        obtain ⟨wo, rfl⟩ : ∃ wo : World, wo = wr := ⟨_, rfl⟩
        obtain ⟨x, hx⟩ : ∃ x, xs[k]? = some x := ⟨_, List.getElem?_eq_getElem hkn⟩
        have hcall := fun w => spec_l4In_any s x.path w
        have hstep := underOf_next (s := s) hx
        have hlen := underOf_len xs s k
        obtain ⟨done, hdone⟩ : ∃ done, done = underOf (xs.take k) s := ⟨_, rfl⟩
        rw [← hdone] at hn' hown hstep hlen
        subst hn'
        have Hx := Lib.hid hx
        clear hx hdone
        go_wp2_with fail
        refine Calls.mono (hcOk _ _ _ (h1.keep hb hh1) (by omega)) ?_
        rintro e w2 ⟨rfl, hb2⟩
        have hs2 := hb2.size
        have hbB := hb.trans (hb2.mono hsz)
        have hown2 := ownsRow_same (w' := w2) hown (fun q hq => hb2.block q (hown.lt q (by simpa using hq)).2)
        obtain ⟨b1, o1, x', rfl, _, hbhi, hx', A1, n1, c1, d0, d1, r1⟩ := Files.at (h1.keep hbB hh1) hkn
        rw [Hx.out] at hx'
        obtain rfl := Option.some.inj hx'
        clear hb2 hown hb d1 r1
        by_cases he : x.path = s
        · have hb1 : (x.path == s) = true := by simp [he]
          have hst : atOr x.path s = true := by simp [atOr, he]
          rw [hst] at hstep
          have Hstep := Lib.hid hstep
          clear he hst hstep
          go_wp2_with (at_builtin; refine wpList_append_src _ rfl (.tmp 34) (.tmp 40) _ rfl w.heap.size 9 is _ 1 16 Tryd.underlying35 si0 si1 si2 si3 rfl (by omega) _ done.length _ rfl (hown2.alloc _) _ 1 1 [.string ⟨x.path.toArray⟩] rfl (Src.lit w2 9 [.string ⟨x.path.toArray⟩] 1 1 rfl) ?e2 ?e3 ?e4 ?e5 ?_)
          case e2 => first | rfl | (intro u hu; simp at hu; subst hu; rfl)
          case e3 => unfold maxLen; omega
          case e4 => omega
          case e5 => first | omega | (simp; omega)
          intro A4 c4 w4 hown4 hg4 hat4
          have hb4 : Below w.heap.size w w4 := (hbB.alloc (by omega) _).grown hg4 (by simp; omega) (fun g hg => (hown2.lt g hg).1)
          go_wp2
          go_roundw
          case rel => exact ⟨k + 1, A4, _, c4, by omega, by go_num, rfl, by rw [Hstep.out]; simp, by rw [Hstep.out]; simpa using hown4, hb4⟩
          case measure => simp [intOf]; omega
        · have hb1 : (x.path == s) = false := by simp [he]
          have hst : atOr x.path s = below s x.path := by unfold atOr; rw [decide_eq_false he]; rfl
          cases tb : below s x.path
          · rw [tb] at hcall hst
            rw [hst] at hstep
            have Hstep := Lib.hid hstep
            clear he hst hstep
            go_wp2_with fail
            refine Calls.mono (hcall _) ?_
            rintro e w' ⟨rfl, rfl⟩
            go_wp2
            go_roundw
            case rel => exact ⟨k + 1, A', _, c', by omega, by go_num, rfl, by rw [Hstep.out]; simp, by rw [Hstep.out]; simpa using hown2, hbB⟩
            case measure => simp [intOf]; omega
          · rw [tb] at hcall hst
            rw [hst] at hstep
            have Hstep := Lib.hid hstep
            clear he hst hstep
            go_wp2_with fail
            refine Calls.mono (hcall _) ?_
            rintro e w' ⟨rfl, rfl⟩
            go_wp2_with (at_builtin; refine wpList_append_src _ rfl (.tmp 34) (.tmp 40) _ rfl w.heap.size 9 is _ 1 16 Tryd.underlying35 si0 si1 si2 si3 rfl (by omega) _ done.length _ rfl (hown2.alloc _) _ 1 1 [.string ⟨x.path.toArray⟩] rfl (Src.lit w2 9 [.string ⟨x.path.toArray⟩] 1 1 rfl) ?f2 ?f3 ?f4 ?f5 ?_)
            case f2 => first | rfl | (intro u hu; simp at hu; subst hu; rfl)
            case f3 => unfold maxLen; omega
            case f4 => omega
            case f5 => first | omega | (simp; omega)
            intro A4 c4 w4 hown4 hg4 hat4
            have hb4 : Below w.heap.size w w4 := (hbB.alloc (by omega) _).grown hg4 (by simp; omega) (fun g hg => (hown2.lt g hg).1)
            go_wp2
            go_roundw
            case rel => exact ⟨k + 1, A4, _, c4, by omega, by go_num, rfl, by rw [Hstep.out]; simp, by rw [Hstep.out]; simpa using hown4, hb4⟩
            case measure => simp [intOf]; omega
      · obtain rfl : k = xs.length := by omega
        rw [List.take_length] at hn' hown
        subst hn'
        have hfin := (Fresh.of_row hown (owns_strs _ _))
        have Hfin := Lib.hid hfin
        clear hfin
        go_wp2
        go_ret
        exact ⟨_, _, _, rfl, hb, Hfin.out⟩
end Go.Proofs.YtbkcgphikafieaaDoor
