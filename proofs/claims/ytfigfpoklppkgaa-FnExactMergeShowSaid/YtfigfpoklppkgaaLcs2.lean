/- Walk: the reference's table of longest common subsequences. -/
import Derived.Test.YtfigfpoklppkgaaLcs
namespace Go.Proofs.Ytfigfpoklppkgaa
open Go.RowKit

set_option maxRecDepth 100000 in
set_option maxHeartbeats 2000000 in
theorem spec_l1Table_any (A1 A2 : Option Addr) (n1 c1 n2 c2 : Nat) (xs ys : List Str) (w : World) (lo hi lo' hi' : Nat) (h1 : Rep w lo hi (encText xs) (.slice A1 n1 c1)) (h2 : Rep w lo' hi' (encText ys) (.slice A2 n2 c2))
    (hh1 : hi ≤ w.heap.size) (hh2 : hi' ≤ w.heap.size) (hx : xs.length ≤ 1048576) (hy : ys.length ≤ 1048576) :
    Calls Try.prog 27 #[.slice A1 n1 c1, .slice A2 n2 c2] w fun e w' => ∃ g c G, e = .returned (.slice (some ⟨g, 0, none⟩) (xs.length + 1) c) ∧ Below w.heap.size w w' ∧ G.length = xs.length + 1 ∧
      Grid w' w.heap.size (.slice (some ⟨g, 0, none⟩) (xs.length + 1) c) G (ys.length + 1) (lcsAt xs ys) := by
  have hl1 := Text.n h1
  have hl2 := Text.n h2
  obtain ⟨hc1, hm1⟩ := Text.cap h1
  obtain ⟨hc2, hm2⟩ := Text.cap h2
  subst hl1 hl2
  obtain ⟨i, hi0, hi1, hi2, hi3⟩ := info_parts Try.infoInts
  obtain ⟨i', hj0, hj1, hj2, hj3⟩ := info_parts Try.infoInt
  have hzero : (madeCells #[(.int .i64 0 : Value)] (ys.length + 1)).toList = rowCells (fun _ _ => 0) (ys.length + 1) 0 := by
    rw [toList_madeCells_one, rowCells, List.map_const']; simp
  have Hzero := Lib.hid hzero
  clear hzero
  go_enter Try.func27, Try.ntmps27
  go_wp2
  go_loopw [5, 6] (fun t i wr => ∃ (k : Nat) (G : List Nat) (A' : Option Addr) (c' : Nat), k ≤ xs.length + 1 ∧ t = .slice A' k c' ∧ i = .int .i64 k ∧ Hid (G.length = k) ∧ wr.ownsRow w.heap.size 36 1 (.slice A' k c') k (G.map fun g => .slice (some ⟨g, 0, none⟩) (ys.length + 1) (ys.length + 1)) ∧
      G.Nodup ∧ (∀ g ∈ G, wr.ownsRow w.heap.size 3 1 (.slice (some ⟨g, 0, none⟩) (ys.length + 1) (ys.length + 1)) (ys.length + 1) (rowCells (fun _ _ => 0) (ys.length + 1) 0)) ∧
      Below w.heap.size w wr) (fun _ t _ => xs.length + 1 - (intOf t).toNat)
  case atStart => exact ⟨0, [], _, _, Nat.zero_le _, rfl, rfl, Lib.hid rfl, World.ownsRow_made w #[] 0 (Nat.le_refl _) (Nat.zero_le _) rfl, .nil, (fun g hg => by cases hg), (Below.refl _ _).alloc (Nat.le_refl _) _⟩
  case round =>
    obtain ⟨k, G, A', c', hk, rfl, rfl, hGl, hown, hnd, hrows, hb⟩ := hrel
    by_cases hkn : k ≤ xs.length
    · have hkn' : (k : Int) ≤ (xs.length : Int) := by omega
      go_wp2_with (at_make; refine wpList_make_full _ rfl _ _ _ rfl w.heap.size 3 i' _ 1 Try.underlying36 hj0 hj1 hj2 _ _ _ _ (ys.length + 1) rfl rfl (by omega) (by omega) ?d1 ?d2 ?d3 ?_)
      case d1 => rw [hj3]; omega
      case d2 => unfold maxLen; omega
      case d3 => exact hb.size
      intro w2 hrow hg2
      have hlt : ∀ g ∈ G, g < wr.heap.size := fun g hg => ((hrows g hg).lt g rfl).2
      have hown' := hown.kept hg2 (by cases A' <;> simp [Value.ownBlock])
      have hrows' : ∀ g ∈ G, w2.ownsRow w.heap.size 3 1 (.slice (some ⟨g, 0, none⟩) (ys.length + 1) (ys.length + 1)) (ys.length + 1) (rowCells (fun _ _ => 0) (ys.length + 1) 0) :=
        fun g hg => (hrows g hg).kept hg2 (.inr (by simp [Value.ownBlock]))
      have hb' : Below w.heap.size w w2 := hb.grown hg2 hb.size (by simp)
      rw [Hzero.out] at hrow
      clear hown hrows
      go_wp2_with (at_builtin; refine wpList_append_src _ rfl (.tmp 16) (.tmp 21) _ rfl w.heap.size 36 i _ 1 24 Try.underlying41 hi0 hi1 hi2 hi3 rfl (by omega) _ k _ rfl (hown'.alloc _) _ 1 1 [(.slice (some ⟨wr.heap.size, 0, none⟩) (ys.length + 1) (ys.length + 1))] rfl ?e1 ?e2 ?e3 ?e4 ?e5 ?_)
      case e1 => exact ⟨rfl, fun _ => ⟨_, 0, rfl, fun j u hu => by
        cases j with
        | zero => simp at hu; subst hu; simp [go_sem]
        | succ j => simp at hu⟩⟩
      case e2 => intro u hu; simp at hu; subst hu; rfl
      case e3 => unfold maxLen; omega
      case e4 => omega
      case e5 => simp; have := hb'.size; omega
      intro A2' c2' w3 hown3 hg3 hat3
      have hb3 : Below w.heap.size w w3 := (hb'.alloc hb'.size _).grown hg3 (by simp; have := hb'.size; omega) (fun g hg => (hown'.lt g hg).1)
      have hrows3 : ∀ g ∈ G ++ [wr.heap.size], w3.ownsRow w.heap.size 3 1 (.slice (some ⟨g, 0, none⟩) (ys.length + 1) (ys.length + 1)) (ys.length + 1) (rowCells (fun _ _ => 0) (ys.length + 1) 0) := by
        intro g hg
        have hr : w2.ownsRow w.heap.size 3 1 (.slice (some ⟨g, 0, none⟩) (ys.length + 1) (ys.length + 1)) (ys.length + 1) (rowCells (fun _ _ => 0) (ys.length + 1) 0) := by
          rcases List.mem_append.1 hg with hg | hg
          · exact hrows' g hg
          · simp at hg; subst hg; exact hrow
        refine (hr.alloc _).kept hg3 (.inr ?_)
        intro e
        exact own_ne hr hown' (by decide) rfl e.symm
      have hnd3 : (G ++ [wr.heap.size]).Nodup := by
        refine List.nodup_append.2 ⟨hnd, by simp, fun a ha b hb' => ?_⟩
        simp at hb'; have := hlt a ha; omega
      have hmap : (G.map fun g => (.slice (some ⟨g, 0, none⟩) (ys.length + 1) (ys.length + 1) : Value)) ++ [(.slice (some ⟨wr.heap.size, 0, none⟩) (ys.length + 1) (ys.length + 1))] = (G ++ [wr.heap.size]).map fun g => .slice (some ⟨g, 0, none⟩) (ys.length + 1) (ys.length + 1) := by simp
      rw [hmap] at hown3
      clear hmap hrow hrows' hown' hb hb' hg2 hg3 hat3 hlt
      go_wp2
      go_roundw
      case rel => exact ⟨k + 1, G ++ [wr.heap.size], _, _, by omega, rfl, by go_num, Lib.hid (by simp [hGl.out]), hown3, hnd3, hrows3, hb3⟩
      case measure => simp [intOf]; omega
    · have hk1 : k = xs.length + 1 := by omega
      subst hk1
      have hG : G.length = xs.length + 1 := hGl.out
      have hgrid : Grid wr w.heap.size (.slice A' (xs.length + 1) c') G (ys.length + 1) (fun i j => if xs.length ≤ i then lcsAt xs ys i j else 0) := by
        refine ⟨by rw [hG]; exact hown, hnd, fun i g hg => ?_⟩
        have h0 := hrows g (List.mem_of_getElem? hg)
        have e : rowCells (fun _ _ => 0) (ys.length + 1) 0 = rowCells (fun i j => if xs.length ≤ i then lcsAt xs ys i j else 0) (ys.length + 1) i := by
          unfold rowCells
          apply List.map_congr_left
          intro j _
          by_cases hi : xs.length ≤ i
          · simp [hi, lcsAt_end_left hi]
          · simp [hi]
        rw [← e]; exact h0
      obtain ⟨gv, cap, hsh, _, hcap⟩ := hgrid.shape (by omega)
      rw [hG] at hsh hcap
      simp only [Value.slice.injEq, true_and] at hsh
      obtain ⟨rfl, rfl⟩ := hsh
      have hcapm : c' ≤ 9223372036854775807 := by
        rcases hown.2 with ⟨h0, _⟩ | ⟨g9, cap9, cur9, h9, _, _, _, hm9, _⟩
        · simp at h0
        · simp at h9
          unfold maxLen at hm9
          omega
      have HG := Lib.hid hG
      clear hG hrows hown hnd hGl hkn hk
      go_wp2
      go_loopw [7] (fun t wr => ∃ (k : Nat) (z : Int), t = .int .i64 z ∧ Hid (z = (k : Int) - 1) ∧ k ≤ xs.length ∧ Below w.heap.size w wr ∧
        Grid wr w.heap.size (.slice (some ⟨gv, 0, none⟩) (xs.length + 1) c') G (ys.length + 1) (fun i j => if k ≤ i then lcsAt xs ys i j else 0)) (fun t _ => (intOf t + 1).toNat)
      case atStart => exact ⟨xs.length, _, rfl, Lib.hid rfl, Nat.le_refl _, hb, hgrid⟩
      case round =>
        clear hgrid hb
        obtain ⟨k, z, rfl, hz, hk, hb, hgrid⟩ := hrel
        by_cases hk0 : 0 < k
        · obtain ⟨i0, rfl⟩ : ∃ i0, k = i0 + 1 := ⟨k - 1, by omega⟩
          obtain rfl : z = (i0 : Int) := by have := hz.out; omega
          clear hz hk0
          obtain ⟨wo, rfl⟩ : ∃ wo : World, wo = wr := ⟨_, rfl⟩
          have hgrid0 : Grid wo w.heap.size (.slice (some ⟨gv, 0, none⟩) (xs.length + 1) c') G (ys.length + 1) (fun i j => if i0 + 1 ≤ i ∨ (i = i0 ∧ ys.length ≤ j) then lcsAt xs ys i j else 0) := by
            refine hgrid.congr fun i j _ hj => ?_
            by_cases hi : i0 + 1 ≤ i
            · simp [hi]
            · by_cases hi' : i = i0 ∧ ys.length ≤ j
              · simp [lcsAt_end_right hi'.2]
              · simp [hi, hi']
          clear hgrid
          go_wp2
          go_loopw [8] (fun t wr => ∃ (l : Nat) (z : Int), t = .int .i64 z ∧ Hid (z = (l : Int) - 1) ∧ l ≤ ys.length ∧ Below w.heap.size w wr ∧
            Grid wr w.heap.size (.slice (some ⟨gv, 0, none⟩) (xs.length + 1) c') G (ys.length + 1) (fun i j => if i0 + 1 ≤ i ∨ (i = i0 ∧ l ≤ j) then lcsAt xs ys i j else 0)) (fun t _ => (intOf t + 1).toNat)
          case atStart => exact ⟨ys.length, _, rfl, Lib.hid rfl, Nat.le_refl _, hb, hgrid0⟩
          case round =>
            clear hgrid0 hb
            obtain ⟨l, z, rfl, hz, hl, hb, hgrid⟩ := hrel
            by_cases hl0 : 0 < l
            · obtain ⟨j0, rfl⟩ : ∃ j0, l = j0 + 1 := ⟨l - 1, by omega⟩
              obtain rfl : z = (j0 : Int) := by have := hz.out; omega
              clear hz hl0
              have qhi1 : (i0 : Int) < (xs.length : Int) := by omega
              have qhi2 : (i0 : Int) < (xs.length : Int) + 1 := by omega
              have qhi3 : (i0 : Int) + 1 < (xs.length : Int) + 1 := by omega
              have qhj1 : (j0 : Int) < (ys.length : Int) := by omega
              have qhj2 : (j0 : Int) < (ys.length : Int) + 1 := by omega
              have qhj3 : (j0 : Int) + 1 < (ys.length : Int) + 1 := by omega
              obtain ⟨b1, o1, s1, rfl, _, _, hs1, hcell1⟩ := Text.at (h1.keep hb hh1) (k := i0) (by omega)
              obtain ⟨b2, o2, s2, rfl, _, _, hs2, hcell2⟩ := Text.at (h2.keep hb hh2) (k := j0) (by omega)
              obtain ⟨g0, hg0⟩ : ∃ g, G[i0]? = some g := ⟨_, List.getElem?_eq_getElem (by rw [HG.out]; omega)⟩
              obtain ⟨g1, hg1⟩ : ∃ g, G[i0 + 1]? = some g := ⟨_, List.getElem?_eq_getElem (by rw [HG.out]; omega)⟩
              have t0 := hgrid.cellTop hg0
              have t1 := hgrid.cellTop hg1
              have c11 : wr.cell? ⟨g1, j0 + 1, none⟩ = some (.int .i64 (lcsAt xs ys (i0 + 1) (j0 + 1))) := by
                have := hgrid.cell hg1 (j := j0 + 1) (by omega)
                simpa using this
              have c10 : wr.cell? ⟨g1, j0, none⟩ = some (.int .i64 (lcsAt xs ys (i0 + 1) j0)) := by
                have := hgrid.cell hg1 (j := j0) (by omega)
                simpa using this
              have c01 : wr.cell? ⟨g0, j0 + 1, none⟩ = some (.int .i64 (lcsAt xs ys i0 (j0 + 1))) := by
                have := hgrid.cell hg0 (j := j0 + 1) (by omega)
                simpa using this
              have c00 := hgrid.cell hg0 (j := j0) (by omega)
              have f00 := hgrid.frozen hg0 (j := j0)
              by_cases he : s1 = s2
              · have hset : ∀ d, Grid ((wr.drewN d).setCell ⟨g0, j0, none⟩ (.int .i64 (lcsAt xs ys (i0 + 1) (j0 + 1) + 1))) w.heap.size (.slice (some ⟨gv, 0, none⟩) (xs.length + 1) c') G (ys.length + 1) (fun i j => if i0 + 1 ≤ i ∨ (i = i0 ∧ j0 ≤ j) then lcsAt xs ys i j else 0) := by
                  intro d
                  refine ((hgrid.drewN d).set hg0 (j := j0) (lcsAt xs ys (i0 + 1) (j0 + 1) + 1)).congr fun i j _ _ => ?_
                  have hkey := lcsAt_same hs1 hs2 he
                  by_cases hij : i = i0 ∧ j = j0
                  · obtain ⟨rfl, rfl⟩ := hij
                    simp [hkey]
                  · by_cases hi : i0 + 1 ≤ i
                    · simp [hij, hi]
                    · by_cases hi' : i = i0
                      · have h1 : j0 + 1 ≤ j ↔ j0 ≤ j := by
                          have : j ≠ j0 := fun e => hij ⟨hi', e⟩
                          omega
                        have h2 : j ≠ j0 := fun e => hij ⟨hi', e⟩
                        simp [hi', h1, h2]
                      · simp [hi, hi']
                obtain ⟨hx0, hx1⟩ := lcsAt_bound xs ys (i0 + 1) (j0 + 1)
                subst he
                clear hs1 hs2
                go_wp2
                go_quiet (fail)
                go_wp2
                go_region
                go_wp2
                go_roundw
                case rel => (repeat apply Exists.intro); exact ⟨⟨j0, _, rfl, Lib.hid rfl, by omega, (below_drewN hb _).setCell (p := ⟨g0, j0, none⟩) (hgrid.lt hg0).1 _, hset _⟩, rfl⟩
                case measure => simp [intOf]
              · have hbe : (s1 == s2) = false := by simp [he]
                by_cases hge : lcsAt xs ys i0 (j0 + 1) ≤ lcsAt xs ys (i0 + 1) j0
                · have hset : ∀ d, Grid ((wr.drewN d).setCell ⟨g0, j0, none⟩ (.int .i64 (lcsAt xs ys (i0 + 1) j0))) w.heap.size (.slice (some ⟨gv, 0, none⟩) (xs.length + 1) c') G (ys.length + 1) (fun i j => if i0 + 1 ≤ i ∨ (i = i0 ∧ j0 ≤ j) then lcsAt xs ys i j else 0) := by
                    intro d
                    refine ((hgrid.drewN d).set hg0 (j := j0) (lcsAt xs ys (i0 + 1) j0)).congr fun i j _ _ => ?_
                    have hkey := by have := lcsAt_other' hs1 hs2 he; rw [if_neg (by omega)] at this; exact this
                    by_cases hij : i = i0 ∧ j = j0
                    · obtain ⟨rfl, rfl⟩ := hij
                      simp [hkey]
                    · by_cases hi : i0 + 1 ≤ i
                      · simp [hij, hi]
                      · by_cases hi' : i = i0
                        · have h1 : j0 + 1 ≤ j ↔ j0 ≤ j := by
                            have : j ≠ j0 := fun e => hij ⟨hi', e⟩
                            omega
                          have h2 : j ≠ j0 := fun e => hij ⟨hi', e⟩
                          simp [hi', h1, h2]
                        · simp [hi, hi']
  
                  clear hs1 hs2
                  go_wp2
                  go_quiet (fail)
                  go_wp2
                  go_quiet (fail)
                  go_wp2
                  go_region
                  go_wp2
                  go_roundw
                  case rel => (repeat apply Exists.intro); exact ⟨⟨j0, _, rfl, Lib.hid rfl, by omega, (below_drewN hb _).setCell (p := ⟨g0, j0, none⟩) (hgrid.lt hg0).1 _, hset _⟩, rfl⟩
                  case measure => simp [intOf]
                · have hset : ∀ d, Grid ((wr.drewN d).setCell ⟨g0, j0, none⟩ (.int .i64 (lcsAt xs ys i0 (j0 + 1)))) w.heap.size (.slice (some ⟨gv, 0, none⟩) (xs.length + 1) c') G (ys.length + 1) (fun i j => if i0 + 1 ≤ i ∨ (i = i0 ∧ j0 ≤ j) then lcsAt xs ys i j else 0) := by
                    intro d
                    refine ((hgrid.drewN d).set hg0 (j := j0) (lcsAt xs ys i0 (j0 + 1))).congr fun i j _ _ => ?_
                    have hkey := by have := lcsAt_other' hs1 hs2 he; rw [if_pos (by omega)] at this; exact this
                    by_cases hij : i = i0 ∧ j = j0
                    · obtain ⟨rfl, rfl⟩ := hij
                      simp [hkey]
                    · by_cases hi : i0 + 1 ≤ i
                      · simp [hij, hi]
                      · by_cases hi' : i = i0
                        · have h1 : j0 + 1 ≤ j ↔ j0 ≤ j := by
                            have : j ≠ j0 := fun e => hij ⟨hi', e⟩
                            omega
                          have h2 : j ≠ j0 := fun e => hij ⟨hi', e⟩
                          simp [hi', h1, h2]
                        · simp [hi, hi']
  
                  clear hs1 hs2
                  go_wp2
                  go_quiet (fail)
                  go_wp2
                  go_quiet (fail)
                  go_wp2
                  go_region
                  go_wp2
                  go_roundw
                  case rel => (repeat apply Exists.intro); exact ⟨⟨j0, _, rfl, Lib.hid rfl, by omega, (below_drewN hb _).setCell (p := ⟨g0, j0, none⟩) (hgrid.lt hg0).1 _, hset _⟩, rfl⟩
                  case measure => simp [intOf]
            · have hl1 : l = 0 := by omega
              subst hl1
              obtain rfl : z = -1 := by have := hz.out; omega
              go_wp2
              go_roundw
              case rel => exact ⟨i0, _, rfl, Lib.hid rfl, by omega, hb, hgrid.congr fun i j _ _ => by
                by_cases hi : i0 + 1 ≤ i
                · have : i0 ≤ i := by omega
                  simp [hi, this]
                · by_cases hi' : i = i0
                  · simp [hi']
                  · have : ¬ i0 ≤ i := by omega
                    simp [hi, hi', this]⟩
              case measure => simp [intOf]
        · have hk1 : k = 0 := by omega
          subst hk1
          obtain rfl : z = -1 := by have := hz.out; omega
          go_wp2
          go_ret
          exact ⟨_, _, G, rfl, hb, HG.out, hgrid.congr fun i j _ _ => by simp⟩
end Go.Proofs.Ytfigfpoklppkgaa
