/- Walk: the reference's l1Cut. -/
import Derived.Test.YteofafgleojmhaaDoorPathPlain
import Derived.Test.YteofafgleojmhaaDoorRange
import Derived.Test.YteofafgleojmhaaDoorLit
import Derived.Test.YteofafgleojmhaaDoorStr
namespace Go.Proofs.YteofafgleojmhaaDoor
open Go.RowKit

/-- Where the loop of l1Cut stands. -/
structure CutAt (c : UInt8) (most : Nat) (s : Str) (k f : Nat) (done : List Str) : Prop where
  fk : f ≤ k
  ks : k ≤ s.length
  few : done.length ≤ most
  eq : cutN c most s = done ++ cutN c (most - done.length) (s.drop f)
  free : c ∉ (s.drop f).take (k - f)
theorem CutAt.start (c : UInt8) (most : Nat) (s : Str) : CutAt c most s 0 0 [] := ⟨Nat.le_refl _, Nat.zero_le _, Nat.zero_le _, by simp, by simp⟩
theorem take_next {s : Str} {k f : Nat} {b : UInt8} (hf : f ≤ k) (hb : s[k]? = some b) : (s.drop f).take (k + 1 - f) = (s.drop f).take (k - f) ++ [b] := by
  rw [show k + 1 - f = (k - f) + 1 by omega, List.take_add_one, List.getElem?_drop, show f + (k - f) = k by omega, hb]; rfl
theorem CutAt.skip {c : UInt8} {most : Nat} {s : Str} {k f : Nat} {done : List Str} {b : UInt8} (h : CutAt c most s k f done) (hb : s[k]? = some b) (hne : b ≠ c) : CutAt c most s (k + 1) f done :=
  ⟨by have := h.fk; omega, (List.getElem?_eq_some_iff.1 hb).1, h.few, h.eq, by rw [take_next h.fk hb]; simp; exact ⟨by have := h.free; simpa using this, Ne.symm hne⟩⟩
theorem CutAt.hit {c : UInt8} {most : Nat} {s : Str} {k f : Nat} {done : List Str} (h : CutAt c most s k f done) (hb : s[k]? = some c) (hl : done.length < most) :
    CutAt c most s (k + 1) (k + 1) (done ++ [(s.drop f).take (k - f)]) := by
  have hk := (List.getElem?_eq_some_iff.1 hb).1
  refine ⟨Nat.le_refl _, hk, by simp; omega, ?_, by simp⟩
  have e : s.drop f = (s.drop f).take (k - f) ++ c :: s.drop (k + 1) := by
    have h1 := (List.take_append_drop (k - f) (s.drop f)).symm
    rw [List.drop_drop, show f + (k - f) = k by have := h.fk; omega] at h1
    rw [List.drop_eq_getElem_cons hk] at h1
    rw [List.getElem?_eq_getElem hk] at hb
    rw [Option.some.inj hb] at h1
    exact h1
  rw [h.eq]
  obtain ⟨m, hm⟩ : ∃ m, most - done.length = m + 1 := ⟨most - done.length - 1, by omega⟩
  rw [hm]
  conv => lhs; rw [e]
  rw [cutN_hit h.free]
  simp
  rw [show most - (done.length + 1) = m by omega]
theorem CutAt.done {c : UInt8} {most : Nat} {s : Str} {k f : Nat} {done : List Str} (h : CutAt c most s k f done) (he : k = s.length ∨ done.length = most) : done ++ [s.drop f] = cutN c most s := by
  rw [h.eq]
  rcases he with he | he
  · have hf := h.free
    rw [List.take_of_length_le (by rw [List.length_drop]; omega)] at hf
    rw [cutN_none hf]
  · rw [he, Nat.sub_self]; rfl
theorem CutAt.fle {c : UInt8} {most : Nat} {s : Str} {k f : Nat} {done : List Str} (h : CutAt c most s k f done) : f ≤ s.length := Nat.le_trans h.fk h.ks

set_option maxHeartbeats 1000000 in
theorem spec_l1Cut_any (s : Str) (c : UInt8) (most : Nat) (w : World) (hs : s.length ≤ 1073741824) (hmost : most ≤ 1048576) :
    Calls Tryd.prog 9 #[.string ⟨s.toArray⟩, .int .u8 c.toNat, .int .i64 most] w fun e w' => ∃ A' n' c', e = .returned (.slice A' n' c') ∧ Below w.heap.size w w' ∧ Fresh w' w.heap.size w'.heap.size (encText (cutN c most s)) (.slice A' n' c') := by
  obtain ⟨i, hi0, hi1, hi2, hi3⟩ := info_parts Tryd.infoStr
  go_enter Tryd.func9, Tryd.ntmps9
  go_wp2
  go_loopw [7, 8, 9] (fun t f i wr => ∃ (k fr : Nat) (done : List Str) (A : Option Addr) (cc : Nat), t = .slice A done.length cc ∧ i = .int .i64 k ∧ f = .int .i64 fr ∧ CutAt c most s k fr done ∧ wr.ownsRow w.heap.size 9 1 t done.length (done.map fun s => .string ⟨s.toArray⟩) ∧ Below w.heap.size w wr) (fun _ _ i _ => s.length - (intOf i).toNat)
  case atStart => exact ⟨0, 0, [], _, _, rfl, rfl, rfl, CutAt.start c most s, World.ownsRow_made w #[] 0 (Nat.le_refl _) (Nat.zero_le _) rfl, (Below.refl _ _).alloc (Nat.le_refl _) _⟩
  case round =>
    obtain ⟨k, fr, done, A, cc, rfl, rfl, rfl, hC, hown, hb⟩ := hrel
    have hks := hC.ks
    have hfk := hC.fk
    have hfew := hC.few
    have hsz := hb.size
    by_cases hgo : k < s.length ∧ done.length < most
    · obtain ⟨hkn, hdm⟩ := hgo
      have hkn' : (k : Int) < (s.length : Int) := by omega
      have hdm' : (done.length : Int) < (most : Int) := by omega
      obtain ⟨b, hbk⟩ : ∃ b, s[k]? = some b := ⟨_, List.getElem?_eq_getElem hkn⟩
      have hbb := byte_at hbk (by rw [size_mk]; exact hkn)
      have HC := Lib.hid hC
      have Hbk := Lib.hid hbk
      clear hC hbk
      by_cases he : b = c
      · subst he
        obtain ⟨hc1, hc2⟩ := Tryd.cutStr s fr k hfk hks
        obtain ⟨x, hx⟩ : ∃ x, x = (s.drop fr).take (k - fr) := ⟨_, rfl⟩
        rw [← hx] at hc1 hc2
        have Hx := Lib.hid hx
        clear hx
        go_wp2_with (at_builtin; refine wpList_append_src _ rfl (.tmp 28) (.tmp 33) _ rfl w.heap.size 9 i _ 1 16 Tryd.underlying28 hi0 hi1 hi2 hi3 rfl (by omega) _ done.length _ rfl (hown.alloc _) _ 1 1 [.string ⟨x.toArray⟩] rfl (Src.lit wr 9 [.string ⟨x.toArray⟩] 1 1 rfl) ?e2 ?e3 ?e4 ?e5 ?_)
        case e2 => first | rfl | (intro u hu; simp at hu; subst hu; rfl)
        case e3 => unfold maxLen; omega
        case e4 => omega
        case e5 => first | omega | (simp; omega)
        intro A' c' w3 hown3 hg hat
        have hrow := fun g hg => (hown.lt g hg).1
        have hb3 : Below w.heap.size w w3 := (hb.alloc hsz _).grown hg (by simp; omega) hrow
        go_wp2
        go_roundw
        case rel => exact ⟨k + 1, k + 1, done ++ [x], A', c', by simp, by go_num, by go_num, Hx.out ▸ HC.out.hit Hbk.out hdm, by simpa using hown3, hb3⟩
        case measure => simp [intOf]; omega
      · have hne : ((b.toNat : Int) == (c.toNat : Int)) = false := by
          simp
          intro e
          exact he (UInt8.toNat_inj.1 (by omega))
        have He := Lib.hid he
        clear he
        go_wp2
        go_roundw
        case rel => exact ⟨k + 1, fr, done, A, cc, rfl, by go_num, rfl, HC.out.skip Hbk.out He.out, hown, hb⟩
        case measure => simp [intOf]; omega
    · obtain ⟨hc1, hc2⟩ := Tryd.cutStrFrom s fr hC.fle
      obtain ⟨x, hx⟩ : ∃ x, x = s.drop fr := ⟨_, rfl⟩
      rw [← hx] at hc1 hc2
      have hd := hC.done (by omega)
      rw [← hx] at hd
      have Hd := Lib.hid hd
      clear hx hd hC
      by_cases hkn : k < s.length
      · have hkn' : (k : Int) < (s.length : Int) := by omega
        have hdm : ¬ (done.length : Int) < (most : Int) := by omega
        clear hgo
        go_wp2_with (at_builtin; refine wpList_append_src _ rfl (.tmp 37) (.tmp 41) _ rfl w.heap.size 9 i _ 1 16 Tryd.underlying28 hi0 hi1 hi2 hi3 rfl (by omega) _ done.length _ rfl (hown.alloc _) _ 1 1 [.string ⟨x.toArray⟩] rfl (Src.lit wr 9 [.string ⟨x.toArray⟩] 1 1 rfl) ?f2 ?f3 ?f4 ?f5 ?_)
        case f2 => first | rfl | (intro u hu; simp at hu; subst hu; rfl)
        case f3 => unfold maxLen; omega
        case f4 => omega
        case f5 => first | omega | (simp; omega)
        intro A' c' w3 hown3 hg hat
        have hrow := fun g hg => (hown.lt g hg).1
        have hb3 : Below w.heap.size w w3 := (hb.alloc hsz _).grown hg (by simp; omega) hrow
        go_wp2
        go_ret
        exact ⟨_, _, _, rfl, hb3, Hd.out ▸ Fresh.of_row (by simpa using hown3) (owns_strs _ _)⟩
      · have hkn' : ¬ (k : Int) < (s.length : Int) := by omega
        clear hgo
        go_wp2_with (at_builtin; refine wpList_append_src _ rfl (.tmp 37) (.tmp 41) _ rfl w.heap.size 9 i _ 1 16 Tryd.underlying28 hi0 hi1 hi2 hi3 rfl (by omega) _ done.length _ rfl (hown.alloc _) _ 1 1 [.string ⟨x.toArray⟩] rfl (Src.lit wr 9 [.string ⟨x.toArray⟩] 1 1 rfl) ?g2 ?g3 ?g4 ?g5 ?_)
        case g2 => first | rfl | (intro u hu; simp at hu; subst hu; rfl)
        case g3 => unfold maxLen; omega
        case g4 => omega
        case g5 => first | omega | (simp; omega)
        intro A' c' w3 hown3 hg hat
        have hrow := fun g hg => (hown.lt g hg).1
        have hb3 : Below w.heap.size w w3 := (hb.alloc hsz _).grown hg (by simp; omega) hrow
        go_wp2
        go_ret
        exact ⟨_, _, _, rfl, hb3, Hd.out ▸ Fresh.of_row (by simpa using hown3) (owns_strs _ _)⟩

end Go.Proofs.YteofafgleojmhaaDoor
