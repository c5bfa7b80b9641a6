/- Walks: a draw's pick out of a list of strings. -/
import Derived.Test.YthjjocimpkjldaaDraw
import Derived.Test.YthjjocimpkjldaaLit
namespace Go.Proofs.Ythjjocimpkjldaa
open Go.RowKit

theorem Rolls.alloc {B b : Nat} {w w' : World} (h : Rolls B b w w') (hB : B ≤ w'.heap.size) (o : Obj) : Rolls B b w (w'.alloc o) :=
  ⟨h.os, h.tape, h.output, by have := h.size; simp; omega, fun k hk hb => (Below.heap_alloc w' o k (by omega)).trans (h.block k hk hb)⟩
theorem Rolls.grown {B b : Nat} {w w' w'' : World} {row : Option Nat} (h : Rolls B b w w') (hg : w'.grownBy w'' row) (hB : B ≤ w'.heap.size) (hr : ∀ g, row = some g → B ≤ g) : Rolls B b w w'' :=
  ⟨hg.os.trans h.os, hg.tape.trans h.tape, hg.output.trans h.output, Nat.le_trans h.size hg.size, fun k hk hb => (hg.block k (by omega) (fun e => by have := hr k e.symm; omega)).trans (h.block k hk hb)⟩
theorem Rd.grown {w w' : World} {b m : Nat} {row : Option Nat} (h : Rd w b m) (hg : w.grownBy w' row) (hr : ∀ g, row = some g → b < g) : Rd w' b m := by
  have hlt := h.lt
  obtain ⟨A, c, bs, h1, h2, h3⟩ := h.of
  exact ⟨A, c, bs, (hg.block b hlt (fun e => by have := hr b e.symm; omega)).trans h1, h2.same (.of_grown hg (Nat.le_of_lt hlt) (fun g e => .inr (Nat.le_of_lt (hr g e)))), h3⟩
theorem Rd.alloc {w : World} {b m : Nat} (h : Rd w b m) (o : Obj) : Rd (w.alloc o) b m := h.keep ((Below.refl w.heap.size w).alloc (Nat.le_refl _) o) h.lt

theorem spec_of_any (b m : Nat) (A : Option Addr) (n c : Nat) (xs : List Str) (w : World) (lo hi : Nat) (h : Rd w b m) (hm : m ≤ 1000000) (hr : Rep w lo hi (encText xs) (.slice A n c)) (hbl : b < lo) (hh : hi ≤ w.heap.size) (hne : 0 < xs.length) :
    Calls Try.prog 61 #[.pointer (some ⟨b, 0, none⟩), .slice A n c] w fun e w' => ∃ s ∈ xs, e = .returned (.string ⟨s.toArray⟩) ∧ Rolls w.heap.size b w w' ∧ Rd w' b (m + 1) ∧ w'.heap.size = w.heap.size := by
  have hl := Text.n hr
  obtain ⟨hc, hmx⟩ := Text.cap hr
  subst hl
  go_enter Try.func61, Try.ntmps61
  go_wp2_with fail
  refine Calls.mono (spec_pick_any b m _ w h hm) ?_
  rintro e w1 ⟨v, rfl, v0, v1, z1, z2, z3⟩
  obtain ⟨k, rfl⟩ := Int.eq_ofNat_of_zero_le v0
  have hk : k < xs.length := by omega
  obtain ⟨b1, o1, s, rfl, _, _, hs, hcell⟩ := Text.at (hr.same (z1.same hh (.inl hbl))) hk
  have hk' : (k : Int) < (xs.length : Int) := by omega
  clear v1
  go_wp2
  go_ret
  exact ⟨s, List.mem_of_getElem? hs, rfl, z1, z2, z3⟩
end Go.Proofs.Ythjjocimpkjldaa
