/- Walk: the reference's l5Free. -/
import Derived.Test.YtianpeokdojkbaaDoorChangeLaw
import Derived.Test.YtianpeokdojkbaaDoorRepL
namespace Go.Proofs.YtianpeokdojkbaaDoor
open Go.RowKit

theorem freeP_next {xs : List PChange} {l : Nat} {x : PChange} {p : Str} (hx : xs[l]? = some x) (h : freeP (xs.take l) p = true) : freeP (xs.take (l + 1)) p = (!(x.path == p) && !(x.dest == p)) := by
  unfold freeP at h ⊢
  rw [List.take_add_one, hx, List.all_append, h]
  simp
theorem freeP_not {xs : List PChange} {l k : Nat} {x : PChange} {p : Str} (hx : xs[l]? = some x) (hl : l < k) (h : (!(x.path == p) && !(x.dest == p)) = false) : freeP (xs.take k) p = false := by
  cases e : freeP (xs.take k) p with
  | false => rfl
  | true =>
    unfold freeP at e
    rw [List.all_eq_true] at e
    have hm : x ∈ xs.take k := List.mem_of_getElem? (i := l) (by rw [List.getElem?_take, if_pos hl]; exact hx)
    rw [e x hm] at h
    cases h

set_option maxRecDepth 100000 in
set_option maxHeartbeats 2000000 in
theorem spec_l5Free_any (A : Option Addr) (c k : Nat) (xs : List PChange) (p : Str) (w : World) (lo hi : Nat) (h : Rep w lo hi (encChanges xs) (.slice A xs.length c)) (hk : k ≤ xs.length) :
    Calls Tryd.prog 59 #[.slice A k c, .string ⟨p.toArray⟩] w fun e w' => e = .returned (.bool (freeP (xs.take k) p)) ∧ w = w' := by
  obtain ⟨hc, hm⟩ := Changes.cap h
  obtain ⟨v, hv⟩ : ∃ v, v = freeP (xs.take k) p := ⟨_, rfl⟩
  rw [← hv]
  have Hv := Lib.hid hv
  clear hv
  go_enter Tryd.func59, Tryd.ntmps59
  go_wp2
  go_loopw [5] (fun i wr => ∃ l : Nat, l ≤ k ∧ i = .int .i64 l ∧ Hid (freeP (xs.take l) p = true) ∧ wr = w) (fun i _ => k - (intOf i).toNat)
  case atStart => exact ⟨0, Nat.zero_le _, rfl, Lib.hid (by simp [freeP]), rfl⟩
  case round =>
    obtain ⟨l, hl, rfl, hf, rfl⟩ := hrel
    by_cases hln : l < k
    · have hln' : (l : Int) < (k : Int) := by omega
      obtain ⟨b1, o1, x, rfl, _, _, hx, A3, n3, c3, A4, n4, c4, d0, d1, d2, d3, r3, d4, r4⟩ := Changes.at h (k := l) (by omega)
      have hn := freeP_next hx hf.out
      have hno := freeP_not (p := p) hx hln
      cases e1 : (x.path == p)
      · cases e2 : (x.dest == p)
        · have Hn := Lib.hid (show freeP (xs.take (l + 1)) p = true by rw [hn, e1, e2]; rfl)
          clear hn hno hx
          go_wp2
          go_roundw
          case rel => exact ⟨l + 1, by omega, by go_num, Hn, by first | rfl | trivial⟩
          case measure => first | (simp [intOf]; done) | (simp [intOf]; omega)
        · have Hn := Lib.hid (hno (by rw [e1, e2]; rfl))
          clear hn hno hx
          go_wp2
          go_ret
          exact ⟨ret_bool (by rw [Hv.out, Hn.out]), rfl⟩
      · have Hn := Lib.hid (hno (by rw [e1]; rfl))
        clear hn hno hx
        go_wp2
        go_ret
        exact ⟨ret_bool (by rw [Hv.out, Hn.out]), rfl⟩
    · obtain rfl : l = k := by omega
      go_wp2
      go_ret
      exact ⟨ret_bool (by rw [Hv.out, hf.out]), rfl⟩
end Go.Proofs.YtianpeokdojkbaaDoor
