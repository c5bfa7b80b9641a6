/- Walks: what a tree has at a path: the program's get, TreeGet, the reference's l4Get, TreeGet. -/
import Derived.Test.YtgcioajaglljfaaDoorTreeCopy
namespace Go.Proofs.YtgcioajaglljfaaDoor
open Go.RowKit

def getAt : List PFile → Str → Option (List Str)
  | [], _ => none
  | f :: t, p => if f.path = p then some f.text else getAt t p
theorem getAt_drop {t : List PFile} {p : Str} {k : Nat} {x : PFile} (hx : t[k]? = some x) (hne : x.path ≠ p) : getAt (t.drop k) p = getAt (t.drop (k + 1)) p := by
  rw [List.drop_eq_getElem_cons (List.getElem?_eq_some_iff.1 hx).1, getAt]
  rw [List.getElem?_eq_getElem (List.getElem?_eq_some_iff.1 hx).1] at hx
  rw [Option.some.inj hx, if_neg hne]
theorem getAt_here {t : List PFile} {p : Str} {k : Nat} {x : PFile} (hx : t[k]? = some x) (he : x.path = p) : getAt (t.drop k) p = some x.text := by
  rw [List.drop_eq_getElem_cons (List.getElem?_eq_some_iff.1 hx).1, getAt]
  rw [List.getElem?_eq_getElem (List.getElem?_eq_some_iff.1 hx).1] at hx
  rw [Option.some.inj hx, if_pos he]
theorem getAt_mem : ∀ {t : List PFile} {p : Str} {x : List Str}, getAt t p = some x → ∃ f ∈ t, f.path = p ∧ f.text = x
  | f :: t, p, x, h => by
    rw [getAt] at h
    split at h
    · rename_i he
      exact ⟨f, by simp, he, Option.some.inj h⟩
    · obtain ⟨g, hg, h1⟩ := getAt_mem h
      exact ⟨g, by simp [hg], h1⟩
def treeGet (t : List PFile) (p : Str) : Option (List Str) := if treeOk t then getAt t p else none

set_option maxHeartbeats 800000 in
theorem impl_get_any (A : Option Addr) (n c : Nat) (xs : List PFile) (s : Str) (w : World) (lo hi : Nat) (h : Rep w lo hi (encFiles xs) (.slice A n c)) (hh : hi ≤ w.heap.size) (hsm : smallTree xs) :
    Calls Tryd.prog 30 #[.slice A n c, .string ⟨s.toArray⟩] w fun e w' => ∃ A n c, e = .returned (.tuple #[.slice A n c, .bool (getAt xs s).isSome]) ∧ Below w.heap.size w w' ∧ Fresh w' w.heap.size w'.heap.size (encText ((getAt xs s).getD [])) (.slice A n c) := by
  have hl := Files.n h
  obtain ⟨hc, hm⟩ := Files.cap h
  subst hl
  obtain ⟨hx8, hxt⟩ := hsm
  have Hxt := Lib.hid hxt
  clear hxt
  go_enter Tryd.func30, Tryd.ntmps30
  go_wp2
  go_loopw [10] (fun i wr => ∃ k : Nat, k ≤ xs.length ∧ i = .int .i64 k ∧ Hid (getAt xs s = getAt (xs.drop k) s) ∧ Below w.heap.size w wr) (fun i _ => xs.length - (intOf i).toNat)
  case atStart => exact ⟨0, Nat.zero_le _, rfl, Lib.hid (by simp), Below.refl _ _⟩
  case round =>
    obtain ⟨k, hk, rfl, ht, hb⟩ := hrel
    have hsz := hb.size
    by_cases hkn : k < xs.length
    · have hkn' : (k : Int) < (xs.length : Int) := by omega
      obtain ⟨b1, o1, x, rfl, _, hbhi, hx, A1, n1, c1, d0, d1, r1⟩ := Files.at (h.keep hb hh) hkn
      have hxl := Hxt.out x (List.mem_of_getElem? hx)
      have Hx := Lib.hid hx
      clear hx
      by_cases he : x.path = s
      · have hbe : (x.path == s) = true := by simp [he]
        have hv : getAt xs s = some x.text := by rw [ht.out, getAt_here Hx.out he]
        have Hv := Lib.hid hv
        have r2 := fun o => r1.keep ((Below.refl wr.heap.size wr).alloc (Nat.le_refl _) o) (Nat.le_trans hh hsz)
        clear he hv
        go_wp2_with fail
        refine Calls.mono (impl_copyText_any _ _ _ x.text _ lo hi (r2 _) (by simp; omega) hxl) ?_
        rintro e w2 ⟨A2, n2, c2, rfl, hb2, hf2⟩
        go_wp2
        go_ret2
        rw [Hv.out]
        exact ⟨_, _, _, rfl, (hb.alloc hsz _).trans (hb2.mono (by simp; omega)), hf2.mono (by simp; omega) (Nat.le_refl _)⟩
      · have hbe : (x.path == s) = false := by simp [he]
        have hst := getAt_drop Hx.out he
        have Hst := Lib.hid hst
        clear hst he
        go_wp2
        go_roundw
        case rel => exact ⟨k + 1, by omega, by go_num, Lib.hid (ht.out.trans Hst.out), hb.alloc hsz _⟩
        case measure => simp [intOf]; omega
    · obtain rfl : k = xs.length := by omega
      have hv : getAt xs s = none := by rw [ht.out, List.drop_length]; rfl
      have Hv := Lib.hid hv
      clear hv
      go_wp2
      go_ret2
      rw [Hv.out]
      exact ⟨_, _, _, rfl, hb, Fresh.nil _ _ _ _ _⟩

set_option maxHeartbeats 800000 in
theorem spec_l4Get_any (A : Option Addr) (n c : Nat) (xs : List PFile) (s : Str) (w : World) (lo hi : Nat) (h : Rep w lo hi (encFiles xs) (.slice A n c)) :
    Calls Tryd.prog 12 #[.slice A n c, .string ⟨s.toArray⟩] w fun e w' => ∃ A n c, e = .returned (.tuple #[.slice A n c, .bool (getAt xs s).isSome]) ∧ w = w' ∧ Rep w lo hi (encText ((getAt xs s).getD [])) (.slice A n c) := by
  have hl := Files.n h
  obtain ⟨hc, hm⟩ := Files.cap h
  subst hl
  go_enter Tryd.func12, Tryd.ntmps12
  go_wp2
  go_loop [6] (fun i => ∃ k : Nat, k ≤ xs.length ∧ i = .int .i64 k ∧ Hid (getAt xs s = getAt (xs.drop k) s)) (fun i => xs.length - (intOf i).toNat)
  case atStart => exact ⟨0, Nat.zero_le _, rfl, Lib.hid (by simp)⟩
  case round =>
    obtain ⟨k, hk, rfl, ht⟩ := hrel
    by_cases hkn : k < xs.length
    · have hkn' : (k : Int) < (xs.length : Int) := by omega
      obtain ⟨b1, o1, x, rfl, _, hbhi, hx, A1, n1, c1, d0, d1, r1⟩ := Files.at h hkn
      have Hx := Lib.hid hx
      clear hx
      by_cases he : x.path = s
      · have hbe : (x.path == s) = true := by simp [he]
        have hv : getAt xs s = some x.text := by rw [ht.out, getAt_here Hx.out he]
        have Hv := Lib.hid hv
        clear he hv
        go_wp2
        go_ret2
        rw [Hv.out]
        exact ⟨_, _, _, rfl, rfl, r1⟩
      · have hbe : (x.path == s) = false := by simp [he]
        have hst := getAt_drop Hx.out he
        have Hst := Lib.hid hst
        clear hst he
        go_wp2
        go_round
        case rel => exact ⟨k + 1, by omega, by go_num, Lib.hid (ht.out.trans Hst.out)⟩
        case measure => simp [intOf]; omega
    · obtain rfl : k = xs.length := by omega
      have hv : getAt xs s = none := by rw [ht.out, List.drop_length]; rfl
      have Hv := Lib.hid hv
      clear hv
      go_wp2
      go_ret2
      rw [Hv.out]
      exact ⟨_, _, _, rfl, rfl, Rep.of_nil _ _ _ _ _⟩


end Go.Proofs.YtgcioajaglljfaaDoor
