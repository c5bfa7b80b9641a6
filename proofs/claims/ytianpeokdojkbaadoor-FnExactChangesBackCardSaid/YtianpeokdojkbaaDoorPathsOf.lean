/- Walk: all paths of changes, in order: the program's pathsOf. -/
import Derived.Test.YtianpeokdojkbaaDoorChangePlain
import Derived.Test.YtianpeokdojkbaaDoorSortS
import Derived.Test.YtianpeokdojkbaaDoorLit
namespace Go.Proofs.YtianpeokdojkbaaDoor
open Go.RowKit

theorem pathsL_next {xs : List PChange} {k : Nat} {x : PChange} (h : xs[k]? = some x) : pathsL (xs.take (k + 1)) = pathsL (xs.take k) ++ pathsC x := by
  unfold pathsL
  rw [List.take_add_one, h, List.flatMap_append]
  simp
theorem pathsC_len (x : PChange) : (pathsC x).length ≤ 2 := by unfold pathsC; split <;> simp
theorem pathsL_len : ∀ xs : List PChange, (pathsL xs).length ≤ 2 * xs.length
  | [] => by simp [pathsL]
  | x :: xs => by
    have h1 := pathsL_len xs
    have h2 := pathsC_len x
    unfold pathsL at h1 ⊢
    simp only [List.flatMap_cons, List.length_append, List.length_cons]
    omega

set_option maxRecDepth 100000 in
set_option maxHeartbeats 2000000 in
theorem impl_pathsOf_any (A : Option Addr) (n c : Nat) (xs : List PChange) (w : World) (lo hi : Nat) (h : Rep w lo hi (encChanges xs) (.slice A n c)) (hh : hi ≤ w.heap.size) (hn16 : xs.length ≤ 16) :
    Calls Tryd.prog 62 #[.slice A n c] w fun e w' => ∃ A' c', e = .returned (.slice A' (pathsL xs).length c') ∧ w'.ownsRow w.heap.size 9 1 (.slice A' (pathsL xs).length c') (pathsL xs).length (encS (sortS (pathsL xs))) ∧ Below w.heap.size w w' := by
  have hl := Changes.n h
  obtain ⟨hc, hm⟩ := Changes.cap h
  subst hl
  obtain ⟨is, si0, si1, si2, si3⟩ := info_parts Tryd.infoStr
  go_enter Tryd.func62, Tryd.ntmps62
  go_wp2
  go_loopw [3, 8] (fun t i wr => ∃ (k : Nat) (A' : Option Addr) (n' c' : Nat), k ≤ xs.length ∧ i = .int .i64 k ∧ t = .slice A' n' c' ∧ n' = (pathsL (xs.take k)).length ∧
      wr.ownsRow w.heap.size 9 1 (.slice A' n' c') n' ((pathsL (xs.take k)).map fun s => .string ⟨s.toArray⟩) ∧ Below w.heap.size w wr) (fun _ i _ => xs.length - (intOf i).toNat)
  case atStart => exact ⟨0, none, 0, 0, Nat.zero_le _, rfl, rfl, by simp [pathsL], by simpa [pathsL] using World.ownsRow_nil w _ _ _, Below.refl _ _⟩
  case round =>
    obtain ⟨k, A', n', c', hk, rfl, rfl, hn', hown, hb⟩ := hrel
    have hsz := hb.size
    by_cases hkn : k < xs.length
    · have hkn' : (k : Int) < (xs.length : Int) := by omega
      obtain ⟨b1, o1, x, rfl, _, hbhi, hx, A3, n3, c3, A4, n4, c4, d0, d1, d2, d3, r3, d4, r4⟩ := Changes.at (h.keep hb hh) hkn
      have hnx := pathsL_next hx
      have hle := pathsL_len (xs.take k)
      have hle2 : (xs.take k).length ≤ 16 := by rw [List.length_take]; omega
      obtain ⟨done, hdone⟩ : ∃ done, done = pathsL (xs.take k) := ⟨_, rfl⟩
      rw [← hdone] at hn' hown hnx hle
      have hdl : done.length ≤ 32 := by omega
      subst hn'
      obtain ⟨wo, rfl⟩ : ∃ wo : World, wo = wr := ⟨_, rfl⟩
      have hpx : pathsC x = if x.kind = 4 then [x.path, x.dest] else [x.path] := rfl
      have Hpx := Lib.hid hpx
      have Hnx := Lib.hid hnx
      clear hx hdone hle hle2 hpx hnx
      have hS : Src ((wo.alloc (.cells #[.int .i64 x.kind, .string ⟨x.path.toArray⟩, .string ⟨x.dest.toArray⟩, .slice A3 n3 c3, .slice A4 n4 c4] 51)).alloc (.cells #[.string ⟨x.path.toArray⟩] 9)) 1 (some ⟨wo.heap.size + 1, 0, none⟩) 1 [.string ⟨x.path.toArray⟩] := by
        have h9 := Src.lit (wo.alloc (.cells #[.int .i64 x.kind, .string ⟨x.path.toArray⟩, .string ⟨x.dest.toArray⟩, .slice A3 n3 c3, .slice A4 n4 c4] 51)) 9 [.string ⟨x.path.toArray⟩] 1 1 rfl
        have h8 : (wo.alloc (.cells #[.int .i64 x.kind, .string ⟨x.path.toArray⟩, .string ⟨x.dest.toArray⟩, .slice A3 n3 c3, .slice A4 n4 c4] 51)).heap.size = wo.heap.size + 1 := by simp
        rw [h8] at h9
        exact h9
      go_wp2_with (at_builtin; refine wpList_append_src _ rfl (.tmp 12) (.tmp 15) _ rfl w.heap.size 9 is _ 1 16 Tryd.underlying39 si0 si1 si2 si3 rfl (by omega) _ done.length _ rfl ((hown.alloc _).alloc _) _ 1 1 [.string ⟨x.path.toArray⟩] rfl hS ?e2 ?e3 ?e4 ?e5 ?_)
      case e2 => first | rfl | (intro u hu; simp at hu; subst hu; rfl)
      case e3 => unfold maxLen; omega
      case e4 => omega
      case e5 => first | omega | (simp; omega)
      intro A5 c5 w5 hown5 hg5 hat5
      have hb5 : Below w.heap.size w w5 := ((hb.alloc (by omega) _).alloc (by simp; omega) _).grown hg5 (by simp; omega) (fun g hg => (hown.lt g hg).1)
      have kx : ∀ j u, ((wo.alloc (.cells #[.int .i64 x.kind, .string ⟨x.path.toArray⟩, .string ⟨x.dest.toArray⟩, .slice A3 n3 c3, .slice A4 n4 c4] 51)).alloc (.cells #[.string ⟨x.path.toArray⟩] 9)).cell? ⟨wo.heap.size, j, none⟩ = some u → w5.cell? ⟨wo.heap.size, j, none⟩ = some u := fun j u h9 =>
        (World.cell?_of_block (a := ⟨wo.heap.size, j, none⟩) (hg5.block wo.heap.size (by simp; omega) (fun e => by have := (hown.lt _ e.symm).2; omega))).trans h9
      have q0 := kx 0 (.int .i64 x.kind) (by go_simp)
      have q2 := kx 2 (.string ⟨x.dest.toArray⟩) (by go_simp)
      have hs5 : wo.heap.size < w5.heap.size := by have := hg5.size; simp at this; omega
      clear kx hg5 hat5
      clear hS d0 d1 d2 d3 d4 r3 r4
      by_cases k4 : x.kind = 4
      · have hn2 : pathsL (xs.take (k + 1)) = done ++ [x.path] ++ [x.dest] := by rw [Hnx.out, Hpx.out, if_pos k4]; simp
        have Hn2 := Lib.hid hn2
        have kb : (x.kind == 4) = true := by simpa using k4
        have K4 := Lib.hid k4
        clear hn2 k4
        go_wp2_with (at_builtin; refine wpList_append_src _ rfl (.tmp 20) (.tmp 23) _ rfl w.heap.size 9 is _ 1 16 Tryd.underlying39 si0 si1 si2 si3 rfl (by omega) _ (done.length + 1) _ rfl (hown5.alloc _) _ 1 1 [.string ⟨x.dest.toArray⟩] rfl (Src.lit w5 9 [.string ⟨x.dest.toArray⟩] 1 1 rfl) ?e2 ?e3 ?e4 ?e5 ?_)
        case e2 => first | rfl | (intro u hu; simp at hu; subst hu; rfl)
        case e3 => unfold maxLen; omega
        case e4 => omega
        case e5 => first | omega | (simp; omega)
        intro A6 c6 w6 hown6 hg6 hat6
        have hb6 : Below w.heap.size w w6 := (hb5.alloc (by omega) _).grown hg6 (by simp; omega) (fun g hg => (hown5.lt g hg).1)
        clear hg6 hat6
        go_wp2
        go_roundw
        case rel => exact ⟨k + 1, A6, _, c6, by omega, by go_num, rfl, by rw [Hn2.out]; simp, by rw [Hn2.out]; simpa using hown6, hb6⟩
        case measure => first | (simp [intOf]; done) | (simp [intOf]; omega)
      · have hn2 : pathsL (xs.take (k + 1)) = done ++ [x.path] := by rw [Hnx.out, Hpx.out, if_neg k4]
        have Hn2 := Lib.hid hn2
        have kb : (x.kind == 4) = false := by simpa using k4
        clear hn2
        go_wp2
        go_roundw
        case rel => exact ⟨k + 1, A5, _, c5, by omega, by go_num, rfl, by rw [Hn2.out]; simp, by rw [Hn2.out]; simpa using hown5, hb5⟩
        case measure => first | (simp [intOf]; done) | (simp [intOf]; omega)
    · obtain rfl : k = xs.length := by omega
      rw [List.take_length] at hn' hown
      have hle := pathsL_len xs
      subst hn'
      go_wp2_with fail
      refine Calls.mono (sort_any _ _ _ w.heap.size (pathsL xs) _ hown (by omega)) ?_
      rintro e w2 ⟨rfl, hown2, hg2⟩
      have hb2 : Below w.heap.size w w2 := hb.grown hg2 (by omega) (fun g hg => (hown.lt g hg).1)
      clear hg2
      go_wp2
      go_ret
      exact ⟨_, _, rfl, hown2, hb2⟩
end Go.Proofs.YtianpeokdojkbaaDoor
