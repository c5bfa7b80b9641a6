import Derived.Test.YtenkceeicmfjhaaGreatDoorJoinPlain
import Derived.Test.YtenkceeicmfjhaaGreatDoorSortS
import Derived.Test.YtenkceeicmfjhaaGreatDoorZ09
/- Walk: all paths of three trees: the program's allPaths. -/
namespace Go.Proofs.YtenkceeicmfjhaaGreatDoor
open Go.RowKit

/-- The three trees by number. -/
def tree3 (xs ys zs : List PFile) : Nat → List PFile
  | 0 => xs
  | 1 => ys
  | _ => zs
def pathsUp (F : Nat → List PFile) : Nat → List Str
  | 0 => []
  | j + 1 => pathsUp F j ++ pathsT (F j)
theorem pathsUp_len {F : Nat → List PFile} (h : ∀ j, j < 3 → (F j).length ≤ 8) : ∀ j, j ≤ 3 → (pathsUp F j).length ≤ 8 * j
  | 0, _ => by simp [pathsUp]
  | j + 1, hj => by
    have h1 := pathsUp_len h j (by omega)
    have h2 := h j (by omega)
    rw [pathsUp, List.length_append, pathsT_len]
    omega
theorem pathsUp_three (xs ys zs : List PFile) : setS (pathsUp (tree3 xs ys zs) 3) = paths3 xs ys zs := by simp [pathsUp, paths3, tree3]

set_option maxRecDepth 100000 in
set_option maxHeartbeats 2000000 in
theorem impl_allPaths_up (g o c : Nat) (F : Nat → List PFile) (w : World) (hall : ∀ j, j < 3 → ∃ A n c lo hi, w.cell? ⟨g, o + j, none⟩ = some (.slice A n c) ∧ Rep w lo hi (encFiles (F j)) (.slice A n c) ∧ hi ≤ w.heap.size ∧ (F j).length ≤ 8) :
    Calls Tryz.prog 66 #[.slice (some ⟨g, o, none⟩) 3 c] w fun e w' => ∃ A' n' c', e = .returned (.slice A' n' c') ∧ Below w.heap.size w w' ∧ Fresh w' w.heap.size w'.heap.size (encText (setS (pathsUp F 3))) (.slice A' n' c') := by
  obtain ⟨is, si0, si1, si2, si3⟩ := info_parts Tryz.infoStr
  have Hall := Lib.hid hall
  have Hlen := Lib.hid (pathsUp_len (F := F) (fun j hj => (hall j hj).elim fun _ h => h.elim fun _ h => h.elim fun _ h => h.elim fun _ h => h.elim fun _ h => h.2.2.2))
  clear hall
  go_enter Tryz.func66, Tryz.ntmps66
  go_wp2
  go_loopw [3, 10] (fun t i wr => ∃ (j : Nat) (done : List Str) (A' : Option Addr) (c' : Nat), j ≤ 3 ∧ i = .int .i64 j ∧ t = .slice A' done.length c' ∧ Hid (done = pathsUp F j) ∧
      wr.ownsRow w.heap.size 9 1 (.slice A' done.length c') done.length (done.map fun s => .string ⟨s.toArray⟩) ∧ Below w.heap.size w wr) (fun _ i _ => 3 - (intOf i).toNat)
  case atStart => exact ⟨0, [], none, 0, by omega, rfl, rfl, Lib.hid rfl, World.ownsRow_nil w _ _ _, Below.refl _ _⟩
  case round =>
    obtain ⟨j, done, A', c', hj, rfl, rfl, hd, hown, hb⟩ := hrel
    have hsz := hb.size
    have hdl : done.length ≤ 24 := by have := Hlen.out j hj; rw [← hd.out] at this; omega
    obtain ⟨wo, rfl⟩ : ∃ wo : World, wo = wr := ⟨_, rfl⟩
    by_cases hj3 : j < 3
    · have hj3' : (j : Int) < (3 : Int) := by omega
      obtain ⟨A1, n1, c1, lo, hi, k0, h1, hh1, hx8⟩ := Hall.out j hj3
      have hg : g < w.heap.size := World.block_lt_of_cell? w _ k0
      have k1 : wo.cell? ⟨g, o + j, none⟩ = some (.slice A1 n1 c1) := (hb.cell (p := ⟨g, o + j, none⟩) hg).trans k0
      have hn1 := Files.n h1
      obtain ⟨hc1, hm1⟩ := Files.cap h1
      obtain ⟨xs, hxs⟩ : ∃ xs, xs = F j := ⟨_, rfl⟩
      rw [← hxs] at h1 hx8 hn1
      have Hup := Lib.hid (show pathsUp F (j + 1) = done ++ pathsT xs by rw [pathsUp, ← hd.out, ← hxs])
      subst hn1
      clear hxs k0 hd
      go_wp2
      go_loopw [3, 16] (fun t i wq => ∃ (k : Nat) (more : List Str) (A7 : Option Addr) (c7 : Nat), k ≤ xs.length ∧ i = .int .i64 k ∧ t = .slice A7 more.length c7 ∧ Hid (more = done ++ pathsT (xs.take k)) ∧
          wq.ownsRow w.heap.size 9 1 (.slice A7 more.length c7) more.length (more.map fun s => .string ⟨s.toArray⟩) ∧ Below w.heap.size w wq) (fun _ i _ => xs.length - (intOf i).toNat)
      case atStart => exact ⟨0, done, A', c', Nat.zero_le _, rfl, rfl, Lib.hid (by simp [pathsT]), hown, hb⟩
      case round =>
        clear hown hb hsz k1
        obtain ⟨k, more, A7, c7, hk, rfl, rfl, hmo, hown, hb⟩ := hrel
        have hsz := hb.size
        obtain ⟨wq, rfl⟩ : ∃ wq : World, wq = wr := ⟨_, rfl⟩
        have hml : more.length ≤ 32 := by rw [hmo.out, List.length_append, pathsT_len, List.length_take]; omega
        by_cases hkn : k < xs.length
        · have hkn' : (k : Int) < (xs.length : Int) := by omega
          obtain ⟨b1, o1, x, rfl, _, hbhi, hx, A3, n3, c3, d0, d1, r3⟩ := Files.at (h1.keep hb hh1) hkn
          have Hnx := Lib.hid (show done ++ pathsT (xs.take (k + 1)) = more ++ [x.path] by rw [pathsT_next hx, hmo.out, List.append_assoc])
          clear hx
          have hS : Src ((wq.alloc (.cells #[.string ⟨x.path.toArray⟩, .slice A3 n3 c3] 61)).alloc (.cells #[.string ⟨x.path.toArray⟩] 9)) 1 (some ⟨wq.heap.size + 1, 0, none⟩) 1 [.string ⟨x.path.toArray⟩] := by
            have h9 := Src.lit (wq.alloc (.cells #[.string ⟨x.path.toArray⟩, .slice A3 n3 c3] 61)) 9 [.string ⟨x.path.toArray⟩] 1 1 rfl
            have h8 : (wq.alloc (.cells #[.string ⟨x.path.toArray⟩, .slice A3 n3 c3] 61)).heap.size = wq.heap.size + 1 := by simp
            rw [h8] at h9
            exact h9
          go_wp2_with (at_builtin; refine wpList_append_src _ rfl (.tmp 20) (.tmp 23) _ rfl w.heap.size 9 is _ 1 16 Tryz.underlying59 si0 si1 si2 si3 rfl (by omega) _ more.length _ rfl ((hown.alloc _).alloc _) _ 1 1 [.string ⟨x.path.toArray⟩] rfl hS ?e2 ?e3 ?e4 ?e5 ?_)
          case e2 => first | rfl | (intro u hu; simp at hu; subst hu; rfl)
          case e3 => unfold maxLen; omega
          case e4 => omega
          case e5 => first | omega | (simp; omega)
          intro A5 c5 w5 hown5 hg5 hat5
          have hb5 : Below w.heap.size w w5 := ((hb.alloc (by omega) _).alloc (by simp; omega) _).grown hg5 (by simp; omega) (fun g hg => (hown.lt g hg).1)
          clear hg5 hat5 hS d0 d1 r3
          go_wp2
          go_roundw
          case rel => exact ⟨k + 1, more ++ [x.path], A5, c5, by omega, by go_num, by simp, Lib.hid Hnx.out.symm, by simpa using hown5, hb5⟩
          case measure => first | (simp [intOf]; done) | (simp [intOf]; omega)
        · obtain rfl : k = xs.length := by omega
          have Hfin := Lib.hid (show more = pathsUp F (j + 1) by rw [hmo.out, List.take_length, Hup.out])
          clear hmo
          go_wp2
          go_roundw
          case rel => exact ⟨j + 1, more, A7, c7, by omega, by go_num, rfl, Hfin, hown, hb⟩
          case measure => first | (simp [intOf]; done) | (simp [intOf]; omega)
    · obtain rfl : j = 3 := by omega
      go_wp2_with fail
      refine Calls.mono (sort_any _ _ _ w.heap.size done _ hown (by omega)) ?_
      rintro e w2 ⟨rfl, hown2, hg2⟩
      have hb2 : Below w.heap.size w w2 := hb.grown hg2 (by omega) (fun g hg => (hown.lt g hg).1)
      clear hg2
      go_wp2_with fail
      refine Calls.mono (compact_any _ _ _ w.heap.size (sortS done) _ hown2 (by rw [(sortS_perm done).length_eq]; omega)) ?_
      rintro e w3 ⟨A3, c3, rfl, hown3, hg3, hat3⟩
      have hb3 : Below w.heap.size w w3 := hb2.grown hg3 (by have := hb2.size; omega) (fun g hg => (hown2.lt g hg).1)
      rw [compact_sortS] at hown3
      have hfr : Fresh w3 w.heap.size w3.heap.size (encText (setS done)) (.slice A3 (setS done).length c3) := Fresh.of_row hown3 (owns_strs _ _)
      have Hfr := Lib.hid hfr
      have hlen : (Lib.compact (sortS done)).length = (setS done).length := by rw [compact_sortS]
      rw [hlen]
      clear hg3 hat3 hfr hown3 hlen
      go_wp2
      go_ret
      rw [← hd.out]
      exact ⟨_, _, _, rfl, hb3, Hfr.out⟩
theorem impl_allPaths_any (g c : Nat) (A1 A2 A3 : Option Addr) (n1 c1 n2 c2 n3 c3 : Nat) (xs ys zs : List PFile) (w : World) (lo hi lo' hi' lo'' hi'' : Nat) (h1 : Rep w lo hi (encFiles xs) (.slice A1 n1 c1)) (h2 : Rep w lo' hi' (encFiles ys) (.slice A2 n2 c2)) (h3 : Rep w lo'' hi'' (encFiles zs) (.slice A3 n3 c3))
    (hh1 : hi ≤ w.heap.size) (hh2 : hi' ≤ w.heap.size) (hh3 : hi'' ≤ w.heap.size) (hx : xs.length ≤ 8) (hy : ys.length ≤ 8) (hz : zs.length ≤ 8)
    (k0 : w.cell? ⟨g, 0, none⟩ = some (.slice A1 n1 c1)) (k1 : w.cell? ⟨g, 1, none⟩ = some (.slice A2 n2 c2)) (k2 : w.cell? ⟨g, 2, none⟩ = some (.slice A3 n3 c3)) :
    Calls Tryz.prog 66 #[.slice (some ⟨g, 0, none⟩) 3 c] w fun e w' => ∃ A' n' c', e = .returned (.slice A' n' c') ∧ Below w.heap.size w w' ∧ Fresh w' w.heap.size w'.heap.size (encText (paths3 xs ys zs)) (.slice A' n' c') := by
  rw [← pathsUp_three]
  refine impl_allPaths_up g 0 c (tree3 xs ys zs) w fun j hj => ?_
  rw [Nat.zero_add]
  match j, hj with
  | 0, _ => exact ⟨A1, n1, c1, lo, hi, k0, h1, hh1, hx⟩
  | 1, _ => exact ⟨A2, n2, c2, lo', hi', k1, h2, hh2, hy⟩
  | 2, _ => exact ⟨A3, n3, c3, lo'', hi'', k2, h3, hh3, hz⟩
end Go.Proofs.YtenkceeicmfjhaaGreatDoor
