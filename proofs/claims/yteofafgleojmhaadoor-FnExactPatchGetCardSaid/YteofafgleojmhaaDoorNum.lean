/- Walks: a number read: the program's number, the reference's l1Num; the program's linesOf. -/
import Derived.Test.YteofafgleojmhaaDoorGlobs
import Derived.Test.YteofafgleojmhaaDoorGetPlain
import Derived.Test.YteofafgleojmhaaDoorSplit
import Derived.Test.YteofafgleojmhaaDoorStr
import Derived.Shelf.Strconv.Itoa3
import Derived.Shelf.Strconv.ErrVarAll
namespace Go.Proofs.YteofafgleojmhaaDoor
open Go.RowKit

theorem below_more (w : World) (k : Nat) (os : Array Obj) : Below w.heap.size w (Sort.grow (w.drewN k) os) :=
  ⟨rfl, rfl, rfl, by show w.heap.size ≤ (w.heap ++ os).size; rw [Array.size_append]; omega, fun j hj => by show (w.heap ++ os)[j]? = w.heap[j]?; exact Array.getElem?_append_left hj⟩
theorem itoa_all (v : Int) (h0 : -9223372036854775808 ≤ v) (h1 : v ≤ 9223372036854775807) (w : World) (hG : Globs w) : Calls Tryd.prog 25 #[.int .i64 v] w fun e w' => e = .returned (.string ⟨(Lib.itoa v).toArray⟩) ∧ Below w.heap.size w w' := by
  refine Calls.mono (Any.strconv_Itoa Tryd.laysM171 v h0 h1 w hG.tab) (fun e w' hh => ⟨hh.1, ?_⟩)
  obtain ⟨k, os, rfl⟩ := hh.2
  exact below_more w k os
theorem list_data (l : Str) : (⟨l.toArray⟩ : ByteArray).data.toList = l := by simp
theorem atoi_ok (s : Str) (v : Int) (hs : s.length ≤ 1073741824) (h : Lib.atoiAll s = .ok v) (w : World) : Calls Tryd.prog 24 #[.string ⟨s.toArray⟩] w fun e w' => e = .returned (.tuple #[.int .i64 v, .nilIface]) ∧ Below w.heap.size w w' := by
  refine Calls.mono (Any.strconv_Atoi_ok Tryd.laysC172 ⟨s.toArray⟩ (by rw [size_ba]; omega) v (by rw [list_data]; exact h) w) (fun e w' hh => ⟨hh.1, ?_⟩)
  rcases hh.2 with rfl | ⟨t, rfl⟩
  · exact Below.refl _ _
  · exact Lib.bytesWorld_below _ _ _
theorem atoi_bad (s : Str) (hs : s.length ≤ 1073741824) (h : ∀ v, Lib.atoiAll s ≠ .ok v) (w : World) (hG : Globs w) : Calls Tryd.prog 24 #[.string ⟨s.toArray⟩] w fun e w' => ∃ v t N, e = .returned (.tuple #[.int .i64 v, .iface t (.pointer (some ⟨N, 0, none⟩))]) ∧ Below w.heap.size w w' := by
  obtain ⟨-, ⟨t1, p1, h1⟩, ⟨t2, p2, h2⟩⟩ := hG
  cases e : Lib.atoiAll s
  · rename_i v
    exact absurd e (h v)
  · refine Calls.mono (Any.strconv_Atoi_syntax_var Tryd.laysC172 ⟨s.toArray⟩ (by rw [size_ba]; omega) (by rw [list_data]; exact e) t1 p1 w h1) ?_
    rintro e w' ⟨N, rfl, _, _, hb⟩
    exact ⟨_, _, N, rfl, hb⟩
  · refine Calls.mono (Any.strconv_Atoi_range_var Tryd.laysC172 ⟨s.toArray⟩ (by rw [size_ba]; omega) (by rw [list_data]; exact e) t2 p2 w h2) ?_
    rintro e w' ⟨N, rfl, _, _, hb⟩
    exact ⟨_, _, N, rfl, hb⟩

set_option maxRecDepth 100000 in
set_option maxHeartbeats 1000000 in
theorem impl_number_any (s : Str) (w : World) (hs : s.length ≤ 1073741824) (hG : Globs w) :
    Calls Tryd.prog 14 #[.string ⟨s.toArray⟩] w fun e w' => ∃ v, e = .returned (.tuple #[.int .i64 v, .bool (numI s).isSome]) ∧ (∀ u, numI s = some u → v = u) ∧ Below w.heap.size w w' := by
  by_cases hok : ∃ v, Lib.atoiAll s = .ok v
  · obtain ⟨v, hv⟩ := hok
    obtain ⟨b0, b1⟩ := Lib.atoiAll_bounds hv
    have hn : numI s = if Lib.itoa v = s then some v else none := by unfold numI; rw [hv]
    have hc := atoi_ok s v hs hv w
    obtain ⟨T, hT⟩ : ∃ T, T = Lib.itoa v := ⟨_, rfl⟩
    have Hn := Lib.hid hn
    clear hv hn
    by_cases he : Lib.itoa v = s
    · have hb : (T == s) = true := by rw [hT]; simp [he]
      have He := Lib.hid he
      clear he
      go_enter Tryd.func14, Tryd.ntmps14
      go_wp2_with fail
      refine Calls.mono hc ?_
      rintro e w1 ⟨rfl, hb1⟩
      have hi := itoa_all v b0 b1 w1 (hG.keep hb1)
      rw [← hT] at hi
      clear hT
      go_wp2_with fail
      refine Calls.mono hi ?_
      rintro e w2 ⟨rfl, hb2⟩
      go_wp2
      go_ret2
      exact ⟨v, by rw [Hn.out, if_pos He.out]; rfl, fun u hu => by rw [Hn.out, if_pos He.out] at hu; exact Option.some.inj hu, hb1.trans (hb2.mono hb1.size)⟩
    · have hb : (T == s) = false := by rw [hT]; simp [he]
      have He := Lib.hid he
      clear he
      go_enter Tryd.func14, Tryd.ntmps14
      go_wp2_with fail
      refine Calls.mono hc ?_
      rintro e w1 ⟨rfl, hb1⟩
      have hi := itoa_all v b0 b1 w1 (hG.keep hb1)
      rw [← hT] at hi
      clear hT
      go_wp2_with fail
      refine Calls.mono hi ?_
      rintro e w2 ⟨rfl, hb2⟩
      go_wp2
      go_ret2
      exact ⟨v, by rw [Hn.out, if_neg He.out]; rfl, fun u hu => (by rw [Hn.out, if_neg He.out] at hu; cases hu), hb1.trans (hb2.mono hb1.size)⟩
  · have hne : ∀ v, Lib.atoiAll s ≠ .ok v := fun v hv => hok ⟨v, hv⟩
    have hn : numI s = none := by
      unfold numI
      cases e : Lib.atoiAll s
      · rename_i v
        exact absurd e (hne v)
      · rfl
      · rfl
    have hc := atoi_bad s hs hne w hG
    have Hn := Lib.hid hn
    clear hn hok hne
    go_enter Tryd.func14, Tryd.ntmps14
    go_wp2_with fail
    refine Calls.mono hc ?_
    rintro e w1 ⟨v, t, N, rfl, hb1⟩
    clear hc
    go_wp2
    go_ret2
    exact ⟨v, by rw [Hn.out]; rfl, fun u hu => (by rw [Hn.out] at hu; cases hu), hb1⟩
end Go.Proofs.YteofafgleojmhaaDoor
