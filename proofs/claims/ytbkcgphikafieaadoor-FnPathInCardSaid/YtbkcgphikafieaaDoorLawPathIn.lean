/- The walk of the law FnPathIn. -/
import Derived.Test.YtbkcgphikafieaaDoorPath4
import Derived.Test.YtbkcgphikafieaaDoorPathLaw
import Derived.Test.YtbkcgphikafieaaDoorDrawPath
namespace Go.Proofs.YtbkcgphikafieaaDoor
open Go.RowKit

set_option maxRecDepth 100000 in
set_option maxHeartbeats 3200000 in
theorem law_PathIn (A0 : Option Addr) (n0 c0 : Nat) (bs0 : List UInt8) (A1 : Option Addr) (n1 c1 : Nat) (bs1 : List UInt8) (w : World) (h0 : Rep w 0 w.heap.size (encBytes bs0) (.slice A0 n0 c0)) (h1 : Rep w 0 w.heap.size (encBytes bs1) (.slice A1 n1 c1)) :
    Calls Tryd.prog 5 #[.slice A0 n0 c0, .slice A1 n1 c1] w fun e w' => e = .returned (.bool true) ∧ Below w.heap.size w w' := by
  have hl0 := Bytes.n h0
  have hl1 := Bytes.n h1
  subst hl0 hl1
  by_cases g0 : 1048576 < (bs0.length : Int)
  · go_enter Tryd.func5, Tryd.ntmps5
    go_wp2
    go_ret
    exact ⟨rfl, Below.refl _ _⟩
  by_cases g1 : 1048576 < (bs1.length : Int)
  · go_enter Tryd.func5, Tryd.ntmps5
    go_wp2
    go_ret
    exact ⟨rfl, Below.refl _ _⟩
  go_enter Tryd.func5, Tryd.ntmps5
  go_wp2_with fail
  refine Calls.mono (spec_DrawPathIn_any A0 bs0.length c0 bs0 w 0 w.heap.size h0 (Nat.le_refl _)) ?_
  rintro e w1 ⟨a, b, rfl, hb1, la, lb⟩
  have hs1 := hb1.size
  go_wp2_with fail
  refine Calls.mono (impl_PathIn_any a b w1 (by omega) (by omega)) ?_
  rintro e w2 ⟨rfl, hb2⟩
  go_wp2_with fail
  refine Calls.mono (spec_PathIn_any a b w2 (by omega) (by omega)) ?_
  rintro e w3 ⟨rfl, hb3⟩
  go_wp2_with fail
  refine Calls.mono (impl_PathOk_any a w3 (by omega)) ?_
  rintro e w4 ⟨rfl, hb4⟩
  go_wp2_with fail
  refine Calls.mono (spec_PathOk_any a w4 (by omega)) ?_
  rintro e w5 ⟨rfl, hb5⟩
  have h25 := hb1.trans ((hb2.trans ((hb3.trans ((hb4.trans (hb5.mono hb4.size)).mono hb3.size)).mono hb2.size)).mono hs1)
  clear hb2 hb3 hb4 hb5
  go_wp2_with fail
  refine Calls.mono (impl_PathOk_any a w5 (by omega)) ?_
  rintro e w6 ⟨rfl, hb6⟩
  have h26 := h25.trans (hb6.mono h25.size)
  clear h25 hb6
  have hpi : pathIn a b = (pathOk a && pathOk b && below a b) := rfl
  cases pa : pathOk a
  · obtain ⟨v, ev⟩ : ∃ v, v = pathIn a b := ⟨_, rfl⟩
    have hc := fun w => spec_PathIn_any a b w (by omega) (by omega)
    rw [← ev] at hc
    simp only [← ev]
    clear ev hpi
    go_wp2_with fail
    refine Calls.mono (hc w6) ?_
    rintro e w7 ⟨rfl, hb7⟩
    go_wp2_with fail
    refine Calls.mono (impl_PathOk_any a w7 (by omega)) ?_
    rintro e w8 ⟨rfl, hb8⟩
    go_wp2_with fail
    refine Calls.mono (spec_PathOk_any a w8 (by omega)) ?_
    rintro e w9 ⟨rfl, hb9⟩
    go_wp2
    go_ret
    have h29 := h26.trans ((hb7.trans ((hb8.trans (hb9.mono hb8.size)).mono hb7.size)).mono h26.size)
    exact ⟨by simp, h29⟩
  · have hin : ∀ (x y : Str) (v : Bool) (w : World), x.length ≤ 20 → y.length ≤ 20 → pathIn x y = v → Calls Tryd.prog 15 #[.string ⟨x.toArray⟩, .string ⟨y.toArray⟩] w fun e w' => e = .returned (.bool v) ∧ Below w.heap.size w w' := by
      intro x y v w hx hy hv
      rw [← hv]
      exact impl_PathIn_any x y w (by omega) (by omega)
    cases pb : pathOk b
    · obtain ⟨v, ev⟩ : ∃ v, v = pathIn a b := ⟨_, rfl⟩
      have hc := fun w => spec_PathIn_any a b w (by omega) (by omega)
      rw [← ev] at hc
      simp only [← ev]
      clear ev hpi
      go_wp2_with fail
      refine Calls.mono (impl_PathOk_any b w6 (by omega)) ?_
      rintro e w7 ⟨rfl, hb7⟩
      have h27 := h26.trans (hb7.mono h26.size)
      clear h26 hb7
      go_wp2_with fail
      refine Calls.mono (hc w7) ?_
      rintro e w8 ⟨rfl, hb8⟩
      go_wp2_with fail
      refine Calls.mono (impl_PathOk_any a w8 (by omega)) ?_
      rintro e w9 ⟨rfl, hb9⟩
      go_wp2_with fail
      refine Calls.mono (spec_PathOk_any a w9 (by omega)) ?_
      rintro e w10 ⟨rfl, hb10⟩
      go_wp2
      go_ret
      have h29 := h27.trans ((hb8.trans ((hb9.trans (hb10.mono hb9.size)).mono hb8.size)).mono h27.size)
      exact ⟨by simp, h29⟩
    · rw [pa, pb] at hpi
      obtain ⟨v, ev⟩ : ∃ v, v = pathIn a b := ⟨_, rfl⟩
      rw [← ev] at hpi
      simp only [← ev]
      clear ev
      simp only [Bool.true_and] at hpi
      have haa : pathIn a a = false := by unfold pathIn; rw [below_self]; simp
      have hba : below a b = true → pathIn b a = false := fun h => by unfold pathIn; rw [below_back h]; simp
      have hlen : below a b = true → a.length + 1 < b.length := fun h => below_longer h pb
      have htr : ∀ c, below a b = true → pathIn b c = true → pathIn a c = true := fun c h h2 => by
        unfold pathIn at *
        simp only [Bool.and_eq_true] at h2 ⊢
        exact ⟨⟨pa, h2.1.2⟩, below_trans h h2.2⟩
      have Hpi := Lib.hid hpi
      have Haa := Lib.hid haa
      have Hba := Lib.hid hba
      have Hlen := Lib.hid hlen
      have Htr := Lib.hid htr
      clear hpi haa hba hlen htr
      go_wp2_with fail
      refine Calls.mono (impl_PathOk_any b w6 (by omega)) ?_
      rintro e w7 ⟨rfl, hb7⟩
      have h27 := h26.trans (hb7.mono h26.size)
      have hs7 := h27.size
      replace h1 := h1.keep h27 (Nat.le_refl _)
      clear h26 hb7
      go_wp2_with fail
      refine Calls.mono (spec_DrawPathIn_any A1 bs1.length c1 bs1 w7 0 w.heap.size h1 hs7) ?_
      rintro e w8 ⟨_, c, rfl, hb8, _, lc⟩
      have h28 := h27.trans (hb8.mono hs7)
      clear h27 hb8 h1 h0
      go_wp2_with fail
      refine Calls.mono (hin a a false w8 la la Haa.out) ?_
      rintro e w9 ⟨rfl, hb9⟩
      have h29 := h28.trans (hb9.mono h28.size)
      clear h28 hb9
      cases v
      · go_wp2
        go_ret
        exact ⟨rfl, h29⟩
      · have hab : below a b = true := Hpi.out.symm
        have hl := Hlen.out hab
        have hl' : (a.length : Int) + 1 < (b.length : Int) := by omega
        have htk := (below_len hab).2
        obtain ⟨hc1, hc2⟩ := Tryd.cutStrTo b a.length (by omega)
        rw [htk] at hc1 hc2
        have hq : (a == a) = true := by simp
        have Hab := Lib.hid hab
        clear hab htk
        go_wp2_with fail
        refine Calls.mono (hin b a false w9 lb la (Hba.out Hab.out)) ?_
        rintro e w10 ⟨rfl, hb10⟩
        have h210 := h29.trans (hb10.mono h29.size)
        clear h29 hb10
        obtain ⟨u, eu⟩ : ∃ u, pathIn b c = u := ⟨_, rfl⟩
        have Heu := Lib.hid eu
        go_wp2_with fail
        refine Calls.mono (hin b c u w10 lb lc eu) ?_
        rintro e w11 ⟨rfl, hb11⟩
        have h211 := h210.trans (hb11.mono h210.size)
        clear h210 hb11 eu
        cases u
        · go_wp2
          go_ret
          exact ⟨rfl, h211⟩
        · go_wp2_with fail
          refine Calls.mono (hin a c true w11 la lc (Htr.out c Hab.out Heu.out)) ?_
          rintro e w12 ⟨rfl, hb12⟩
          go_wp2
          go_ret
          exact ⟨rfl, h211.trans (hb12.mono h211.size)⟩
end Go.Proofs.YtbkcgphikafieaaDoor
