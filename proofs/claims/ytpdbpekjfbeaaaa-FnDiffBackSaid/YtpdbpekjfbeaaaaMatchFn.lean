/- Walks: DiffMatch, the program's and the reference's. -/
import Derived.Test.YtpdbpekjfbeaaaaMatch
namespace Go.Proofs.Ytpdbpekjfbeaaaa
open Go.RowKit

def diffMatch (a b : List Str) : List Int := if textOk a && textOk b then mtch a b 0 else []

set_option maxHeartbeats 400000 in
theorem impl_DiffMatch_any (A1 A2 : Option Addr) (n1 c1 n2 c2 : Nat) (xs ys : List Str) (w : World) (lo hi lo' hi' : Nat) (h1 : Rep w lo hi (encText xs) (.slice A1 n1 c1)) (h2 : Rep w lo' hi' (encText ys) (.slice A2 n2 c2))
    (hh1 : hi ≤ w.heap.size) (hh2 : hi' ≤ w.heap.size) :
    Calls Try.prog 18 #[.slice A1 n1 c1, .slice A2 n2 c2] w fun e w' => ∃ A n c, e = .returned (.slice A n c) ∧ Below w.heap.size w w' ∧ Fresh w' w.heap.size w'.heap.size (encInts (diffMatch xs ys)) (.slice A n c) := by
  cases t1 : textOk xs
  · go_enter Try.func18, Try.ntmps18
    go_wp2_with fail
    refine (impl_TextOk_any _ _ _ _ _ _ _ h1).mono ?_; rintro e w' ⟨rfl, rfl⟩
    go_wp2
    go_ret
    exact ⟨_, _, _, rfl, Below.refl _ _, by rw [diffMatch, t1]; exact Fresh.nil _ _ _ _ _⟩
  · cases t2 : textOk ys
    · go_enter Try.func18, Try.ntmps18
      go_wp2_with fail
      refine (impl_TextOk_any _ _ _ _ _ _ _ h1).mono ?_; rintro e w' ⟨rfl, rfl⟩
      go_wp2_with fail
      refine (impl_TextOk_any _ _ _ _ _ _ _ h2).mono ?_; rintro e w' ⟨rfl, rfl⟩
      go_wp2
      go_ret
      exact ⟨_, _, _, rfl, Below.refl _ _, by rw [diffMatch, t2, Bool.and_false]; exact Fresh.nil _ _ _ _ _⟩
    · have hl1 := textOk_len t1
      have hl2 := textOk_len t2
      go_enter Try.func18, Try.ntmps18
      go_wp2_with fail
      refine (impl_TextOk_any _ _ _ _ _ _ _ h1).mono ?_; rintro e w' ⟨rfl, rfl⟩
      go_wp2_with fail
      refine (impl_TextOk_any _ _ _ _ _ _ _ h2).mono ?_; rintro e w' ⟨rfl, rfl⟩
      go_wp2_with fail
      refine (impl_match_any _ _ _ _ _ _ _ _ _ _ _ _ _ h1 h2 hh1 hh2 (by omega) (by omega)).mono ?_
      rintro e w1 ⟨A, n, c, rfl, hb, hf⟩
      go_wp2
      go_ret
      exact ⟨_, _, _, rfl, hb, by rw [diffMatch, t1, t2]; exact hf⟩

set_option maxHeartbeats 400000 in
theorem spec_DiffMatch_any (A1 A2 : Option Addr) (n1 c1 n2 c2 : Nat) (xs ys : List Str) (w : World) (lo hi lo' hi' : Nat) (h1 : Rep w lo hi (encText xs) (.slice A1 n1 c1)) (h2 : Rep w lo' hi' (encText ys) (.slice A2 n2 c2))
    (hh1 : hi ≤ w.heap.size) (hh2 : hi' ≤ w.heap.size) (hs1 : ∀ s ∈ xs, s.length ≤ 9223372036854775807) (hs2 : ∀ s ∈ ys, s.length ≤ 9223372036854775807) :
    Calls Try.prog 16 #[.slice A1 n1 c1, .slice A2 n2 c2] w fun e w' => ∃ A n c, e = .returned (.slice A n c) ∧ Below w.heap.size w w' ∧ Fresh w' w.heap.size w'.heap.size (encInts (diffMatch xs ys)) (.slice A n c) := by
  cases t1 : textOk xs
  · go_enter Try.func16, Try.ntmps16
    go_wp2_with fail
    refine (spec_l1Ok_any _ _ _ _ _ _ _ h1 hs1).mono ?_; rintro e w' ⟨rfl, rfl⟩
    go_wp2
    go_ret
    exact ⟨_, _, _, rfl, Below.refl _ _, by rw [diffMatch, t1]; exact Fresh.nil _ _ _ _ _⟩
  · cases t2 : textOk ys
    · go_enter Try.func16, Try.ntmps16
      go_wp2_with fail
      refine (spec_l1Ok_any _ _ _ _ _ _ _ h1 hs1).mono ?_; rintro e w' ⟨rfl, rfl⟩
      go_wp2_with fail
      refine (spec_l1Ok_any _ _ _ _ _ _ _ h2 hs2).mono ?_; rintro e w' ⟨rfl, rfl⟩
      go_wp2
      go_ret
      exact ⟨_, _, _, rfl, Below.refl _ _, by rw [diffMatch, t2, Bool.and_false]; exact Fresh.nil _ _ _ _ _⟩
    · have hl1 := textOk_len t1
      have hl2 := textOk_len t2
      go_enter Try.func16, Try.ntmps16
      go_wp2_with fail
      refine (spec_l1Ok_any _ _ _ _ _ _ _ h1 hs1).mono ?_; rintro e w' ⟨rfl, rfl⟩
      go_wp2_with fail
      refine (spec_l1Ok_any _ _ _ _ _ _ _ h2 hs2).mono ?_; rintro e w' ⟨rfl, rfl⟩
      go_wp2_with fail
      refine (spec_l1Match_any _ _ _ _ _ _ _ _ _ _ _ _ _ h1 h2 hh1 hh2 (by omega) (by omega)).mono ?_
      rintro e w1 ⟨A, n, c, rfl, hb, hf⟩
      go_wp2
      go_ret
      exact ⟨_, _, _, rfl, hb, by rw [diffMatch, t1, t2]; exact hf⟩

end Go.Proofs.Ytpdbpekjfbeaaaa
