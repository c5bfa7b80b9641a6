/- Walks: DiffOf, the program's and the reference's. -/
import Derived.Test.YthjjocimpkjldaaDiff2
namespace Go.Proofs.Ythjjocimpkjldaa
open Go.RowKit

def diffOfOk (a b : List Str) : List PHunk := if textOk a && textOk b then diffOf a b else []


set_option maxHeartbeats 400000 in
theorem spec_DiffOf_any (A1 A2 : Option Addr) (n1 c1 n2 c2 : Nat) (xs ys : List Str) (w : World) (lo hi lo' hi' : Nat) (h1 : Rep w lo hi (encText xs) (.slice A1 n1 c1)) (h2 : Rep w lo' hi' (encText ys) (.slice A2 n2 c2))
    (hh1 : hi ≤ w.heap.size) (hh2 : hi' ≤ w.heap.size) (hs1 : ∀ s ∈ xs, s.length ≤ 9223372036854775807) (hs2 : ∀ s ∈ ys, s.length ≤ 9223372036854775807) :
    Calls Try.prog 52 #[.slice A1 n1 c1, .slice A2 n2 c2] w fun e w' => ∃ A n c, e = .returned (.slice A n c) ∧ Below w.heap.size w w' ∧ Fresh w' w.heap.size w'.heap.size (encHunks (diffOfOk xs ys)) (.slice A n c) := by
  cases t1 : textOk xs
  · go_enter Try.func52, Try.ntmps52
    go_wp2_with fail
    refine (spec_l1Ok_any _ _ _ _ _ _ _ h1 hs1).mono ?_; rintro e w' ⟨rfl, rfl⟩
    go_wp2
    go_ret
    exact ⟨_, _, _, rfl, Below.refl _ _, by rw [diffOfOk, t1]; exact Fresh.nil _ _ _ _ _⟩
  · cases t2 : textOk ys
    · go_enter Try.func52, Try.ntmps52
      go_wp2_with fail
      refine (spec_l1Ok_any _ _ _ _ _ _ _ h1 hs1).mono ?_; rintro e w' ⟨rfl, rfl⟩
      go_wp2_with fail
      refine (spec_l1Ok_any _ _ _ _ _ _ _ h2 hs2).mono ?_; rintro e w' ⟨rfl, rfl⟩
      go_wp2
      go_ret
      exact ⟨_, _, _, rfl, Below.refl _ _, by rw [diffOfOk, t2, Bool.and_false]; exact Fresh.nil _ _ _ _ _⟩
    · have hl1 := textOk_len t1
      have hl2 := textOk_len t2
      go_enter Try.func52, Try.ntmps52
      go_wp2_with fail
      refine (spec_l1Ok_any _ _ _ _ _ _ _ h1 hs1).mono ?_; rintro e w' ⟨rfl, rfl⟩
      go_wp2_with fail
      refine (spec_l1Ok_any _ _ _ _ _ _ _ h2 hs2).mono ?_; rintro e w' ⟨rfl, rfl⟩
      go_wp2_with fail
      refine (spec_l1Of_any _ _ _ _ _ _ _ _ _ _ _ _ _ h1 h2 hh1 hh2 (by omega) (by omega)).mono ?_
      rintro e w1 ⟨A, n, c, rfl, hb, hf⟩
      go_wp2
      go_ret
      exact ⟨_, _, _, rfl, hb, by rw [diffOfOk, t1, t2]; exact hf⟩

end Go.Proofs.Ythjjocimpkjldaa
