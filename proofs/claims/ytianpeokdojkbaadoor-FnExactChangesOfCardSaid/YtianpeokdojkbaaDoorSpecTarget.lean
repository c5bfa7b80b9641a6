import Derived.Test.YtianpeokdojkbaaDoorOfPlain
import Derived.Test.YtianpeokdojkbaaDoorZ21
/- Walk: the reference's l5Target. -/
namespace Go.Proofs.YtianpeokdojkbaaDoor
open Go.RowKit

theorem all_next {α : Type} {p : α → Bool} {l : List α} {k : Nat} {x : α} (h : l[k]? = some x) : (l.take (k + 1)).all p = ((l.take k).all p && p x) := by
  rw [List.take_add_one, h, List.all_append]
  simp

set_option maxRecDepth 100000 in
set_option maxHeartbeats 2000000 in
theorem spec_l5Target_any (A1 A2 A3 A4 : Option Addr) (n1 c1 n2 c2 n3 c3 n4 c4 : Nat) (xs ys : List PFile) (text : List Str) (out : List PChange) (w : World) (lo1 hi1 lo2 hi2 lo3 hi3 lo4 hi4 : Nat)
    (h1 : Rep w lo1 hi1 (encFiles xs) (.slice A1 n1 c1)) (h2 : Rep w lo2 hi2 (encFiles ys) (.slice A2 n2 c2)) (h3 : Rep w lo3 hi3 (encText text) (.slice A3 n3 c3)) (h4 : Rep w lo4 hi4 (encChanges out) (.slice A4 n4 c4))
    (hp : ∀ g ∈ ys, (out.all fun c => c.dest != g.path) = !(tgOf out).contains g.path) :
    Calls Tryd.prog 48 #[.slice A1 n1 c1, .slice A2 n2 c2, .slice A3 n3 c3, .slice A4 n4 c4] w fun e w' => e = .returned (.string ⟨((tgt xs ys text (tgOf out)).getD []).toArray⟩) ∧ ∃ k, w' = w.drewN k := by
  have hl2 := Files.n h2
  have hl4 := Changes.n h4
  obtain ⟨hc2, hm2⟩ := Files.cap h2
  obtain ⟨hc4, hm4⟩ := Changes.cap h4
  subst hl2 hl4
  obtain ⟨P, hP⟩ : ∃ P, P = tgt xs ys text (tgOf out) := ⟨_, rfl⟩
  rw [← hP]
  have HP := Lib.hid hP
  have Hp := Lib.hid hp
  clear hP hp
  go_enter Tryd.func48, Tryd.ntmps48
  go_wp2
  go_loopw [9] (fun i wr => ∃ k : Nat, k ≤ ys.length ∧ i = .int .i64 k ∧ Hid (P = ((ys.drop k).find? (tgtOk xs text (tgOf out))).map (·.path)) ∧ ∃ m, wr = w.drewN m) (fun i _ => ys.length - (intOf i).toNat)
  case atStart => exact ⟨0, Nat.zero_le _, rfl, Lib.hid (by rw [List.drop_zero, HP.out]; rfl), 0, rfl⟩
  case round =>
    obtain ⟨k, hk, rfl, hfd, m, rfl⟩ := hrel
    by_cases hkn : k < ys.length
    · have hkn' : (k : Int) < (ys.length : Int) := by omega
      obtain ⟨b2, o2, y, rfl, _, _, hyl, A5, n5, c5, e0, e1, r5⟩ := Files.at h2 hkn
      have Hno := Lib.hid (fun h9 => find_no (p := tgtOk xs text (tgOf out)) hyl h9)
      have Hyes := Lib.hid (fun h9 => find_yes (p := tgtOk xs text (tgOf out)) hyl h9)
      have Hpy := Lib.hid (Hp.out y (List.mem_of_getElem? hyl))
      clear hyl
      obtain ⟨kn, hkn9⟩ : ∃ kn, kn = hasP xs y.path := ⟨_, rfl⟩
      have hget := spec_l4Get_any A1 n1 c1 xs y.path (w.drewN m) lo1 hi1 (h1.drewN m)
      rw [show (getAt xs y.path).isSome = kn from hkn9.symm] at hget
      have Hkn := Lib.hid hkn9
      clear hkn9
      go_wp2_with fail
      refine Calls.mono hget ?_
      rintro e w1 ⟨A6, n6, c6, rfl, rfl, _⟩
      clear hget
      go_wp2
      go_loopw [12, 13] (fun b i wq => ∃ (l : Nat) (fb : Bool), l ≤ out.length ∧ b = .bool fb ∧ i = .int .i64 l ∧ Hid (fb = (out.take l).all fun c => c.dest != y.path) ∧ ∃ m, wq = w.drewN m) (fun _ i _ => out.length - (intOf i).toNat)
      case atStart => exact ⟨0, true, Nat.zero_le _, rfl, rfl, Lib.hid (by simp), m, rfl⟩
      case round =>
        obtain ⟨l, fb, hl, rfl, rfl, hfb, q, rfl⟩ := hrel
        by_cases hln : l < out.length
        · have hln' : (l : Int) < (out.length : Int) := by omega
          obtain ⟨b4, o4, x, rfl, _, _, hxl, A7, n7, c7, A8, n8, c8, d0, d1, d2, d3, r7, d4, r8⟩ := Changes.at h4 hln
          have Hnx := Lib.hid (all_next (p := fun c : PChange => c.dest != y.path) hxl)
          clear hxl
          cases fb with
          | true =>
            go_wp2
            go_quiet (fail)
            go_wp2
            go_roundw
            case rel => exact ⟨l + 1, (x.dest != y.path), by omega, rfl, by go_num, Lib.hid (by rw [Hnx.out, ← hfb.out]; simp), q + nq, by simp⟩
            case measure => simp [intOf]; omega
          | false =>
            go_wp2
            go_quiet (fail)
            go_wp2
            go_roundw
            case rel => exact ⟨l + 1, false, by omega, rfl, by go_num, Lib.hid (by rw [Hnx.out, ← hfb.out]; simp), q + nq, by simp⟩
            case measure => simp [intOf]; omega
        · obtain rfl : l = out.length := by omega
          have Hfb := Lib.hid (show fb = !(tgOf out).contains y.path by have := hfb.out; rw [List.take_length] at this; rw [this, Hpy.out])
          clear hfb
          cases kn with
          | true =>
            have Hn := Lib.hid (Hno.out (by unfold tgtOk; rw [← Hkn.out]; rfl))
            go_wp2
            go_roundw
            case rel => exact ⟨k + 1, by omega, by go_num, Lib.hid (by rw [hfd.out, Hn.out]), q, by simp⟩
            case measure => simp [intOf]; omega
          | false =>
            cases fb with
            | false =>
              have Hn := Lib.hid (Hno.out (by unfold tgtOk; rw [← Hfb.out]; simp))
              go_wp2
              go_roundw
              case rel => exact ⟨k + 1, by omega, by go_num, Lib.hid (by rw [hfd.out, Hn.out]), q, by simp⟩
              case measure => simp [intOf]; omega
            | true =>
              go_wp2_with fail
              refine Calls.mono (spec_l1Same_any A5 A3 n5 c5 n3 c3 y.text text _ lo2 hi2 lo3 hi3 (r5.drewN q) (h3.drewN q)) ?_
              rintro e w2 ⟨rfl, q2, hw2⟩
              rw [World.drewN_drewN] at hw2
              subst hw2
              by_cases he : y.text = text
              · rw [show decide (y.text = text) = true by simp [he]]
                have He := Lib.hid he
                have Hn := Lib.hid (Hyes.out (by unfold tgtOk; rw [← Hfb.out, ← Hkn.out]; simp [he]))
                clear he
                go_wp2
                go_ret
                exact ⟨by rw [hfd.out, Hn.out]; rfl, _, rfl⟩
              · rw [show decide (y.text = text) = false by simp [he]]
                have Hn := Lib.hid (Hno.out (by unfold tgtOk; simp [he]))
                clear he
                go_wp2
                go_roundw
                case rel => exact ⟨k + 1, by omega, by go_num, Lib.hid (by rw [hfd.out, Hn.out]), _, rfl⟩
                case measure => simp [intOf]; omega
    · obtain rfl : k = ys.length := by omega
      have Hn := Lib.hid (show P = none by rw [hfd.out, List.drop_length]; rfl)
      clear hfd
      go_wp2
      go_ret
      exact ⟨by rw [Hn.out]; rfl, m, rfl⟩
end Go.Proofs.YtianpeokdojkbaaDoor
