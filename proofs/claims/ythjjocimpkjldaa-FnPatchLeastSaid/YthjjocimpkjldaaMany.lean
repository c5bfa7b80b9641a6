/- Walks: DiffMany, the program's and the reference's. -/
import Derived.Test.YthjjocimpkjldaaLcs2
namespace Go.Proofs.Ythjjocimpkjldaa
open Go.RowKit

def diffMany (a b : List Str) : Int := if textOk a && textOk b then (a.length : Int) + b.length - 2 * lcsLen a b else -1
theorem lcsAt_zero (a b : List Str) : lcsAt a b 0 0 = lcsLen a b := by simp [lcsAt]


set_option maxHeartbeats 400000 in
theorem impl_DiffMany_any (A1 A2 : Option Addr) (n1 c1 n2 c2 : Nat) (xs ys : List Str) (w : World) (lo hi lo' hi' : Nat) (h1 : Rep w lo hi (encText xs) (.slice A1 n1 c1)) (h2 : Rep w lo' hi' (encText ys) (.slice A2 n2 c2))
    (hh1 : hi ≤ w.heap.size) (hh2 : hi' ≤ w.heap.size) :
    Calls Try.prog 24 #[.slice A1 n1 c1, .slice A2 n2 c2] w fun e w' => e = .returned (.int .i64 (diffMany xs ys)) ∧ Below w.heap.size w w' := by
  cases t1 : textOk xs
  · go_enter Try.func24, Try.ntmps24
    go_wp2_with (first | (go_at_call 23; refine (impl_TextOk_any _ _ _ _ _ _ _ h1).mono ?_; rintro e w' ⟨rfl, rfl⟩))
    go_ret
    exact ⟨ret_int (by simp [diffMany, t1]), Below.refl _ _⟩
  · cases t2 : textOk ys
    · go_enter Try.func24, Try.ntmps24
      go_wp2_with fail
      refine (impl_TextOk_any _ _ _ _ _ _ _ h1).mono ?_; rintro e w' ⟨rfl, rfl⟩
      go_wp2_with fail
      refine (impl_TextOk_any _ _ _ _ _ _ _ h2).mono ?_; rintro e w' ⟨rfl, rfl⟩
      go_wp2
      go_ret
      exact ⟨ret_int (by simp [diffMany, t2]), Below.refl _ _⟩
    · have hl1 := textOk_len t1
      have hl2 := textOk_len t2
      have hn1 := Text.n h1
      have hn2 := Text.n h2
      subst hn1 hn2
      obtain ⟨hx0, hx1⟩ := lcsAt_bound xs ys 0 0
      have hfin : diffMany xs ys = (xs.length : Int) + (ys.length : Int) - 2 * lcsAt xs ys 0 0 := by simp [diffMany, t1, t2, lcsAt_zero]
      have Hfin := Lib.hid hfin
      clear hfin
      go_enter Try.func24, Try.ntmps24
      go_wp2_with fail
      refine (impl_TextOk_any _ _ _ _ _ _ _ h1).mono ?_; rintro e w' ⟨rfl, rfl⟩
      go_wp2_with fail
      refine (impl_TextOk_any _ _ _ _ _ _ _ h2).mono ?_; rintro e w' ⟨rfl, rfl⟩
      go_wp2_with fail
      refine (impl_lcs_any _ _ _ _ _ _ _ _ _ _ _ _ _ h1 h2 hh1 hh2 (by omega) (by omega)).mono ?_
      rintro e w1 ⟨g, c, G, rfl, hb, hG, hgrid⟩
      obtain ⟨g0, hg0⟩ : ∃ g, G[0]? = some g := ⟨_, List.getElem?_eq_getElem (by omega)⟩
      have t0 := hgrid.cellTop hg0
      have c00 := hgrid.cell hg0 (j := 0) (by omega)
      clear hgrid hG hg0
      go_wp2
      go_ret
      exact ⟨ret_int Hfin.out.symm, hb⟩
end Go.Proofs.Ythjjocimpkjldaa
