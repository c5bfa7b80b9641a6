/- Walks: is a path below another one: strings.HasPrefix, the program's PathIn, the reference's l4In, PathIn. -/
import Derived.Test.YtgcioajaglljfaaDoorPath2
import Derived.Test.YtgcioajaglljfaaDoorPath3
namespace Go.Proofs.YtgcioajaglljfaaDoor
open Go.RowKit

set_option maxHeartbeats 400000 in
theorem stringslite_HasPrefix_any (s p : Str) (w : World) (_hs : s.length ≤ 9223372036854775807) (_hp : p.length ≤ 9223372036854775807) :
    Calls Tryd.prog 61 #[.string ⟨s.toArray⟩, .string ⟨p.toArray⟩] w fun e w' => e = .returned (.bool (p.isPrefixOf s)) ∧ w = w' := by
  by_cases hl : p.length ≤ s.length
  · have hl' : (p.length : Int) ≤ (s.length : Int) := by omega
    obtain ⟨hc1, hc2⟩ := Tryd.cutStrTo s p.length hl
    obtain ⟨x, hx⟩ : ∃ x, x = s.take p.length := ⟨_, rfl⟩
    have hv : p.isPrefixOf s = decide (x = p) := by
      rw [hx, Bool.eq_iff_iff, List.isPrefixOf_iff_prefix, List.prefix_iff_eq_take, decide_eq_true_eq]
      exact eq_comm
    rw [← hx] at hc1 hc2
    have Hv := Lib.hid hv
    clear hx hv hl
    by_cases he : x = p
    · have hb : (x == p) = true := by simp [he]
      have He := Lib.hid he
      clear he
      go_enter Tryd.func61, Tryd.ntmps61
      go_wp2
      go_ret
      exact ⟨ret_bool (by rw [Hv.out]; simp [He.out]), rfl⟩
    · have hb : (x == p) = false := by simp [he]
      go_enter Tryd.func61, Tryd.ntmps61
      go_wp2
      go_ret
      exact ⟨ret_bool (by rw [Hv.out]; simp [he]), rfl⟩
  · have hl' : ¬ (p.length : Int) ≤ (s.length : Int) := by omega
    have hv : p.isPrefixOf s = false := by
      rw [Bool.eq_false_iff, ne_eq, List.isPrefixOf_iff_prefix]
      intro h
      exact hl h.length_le
    have Hv := Lib.hid hv
    clear hv
    go_enter Tryd.func61, Tryd.ntmps61
    go_wp2
    go_ret
    exact ⟨ret_bool Hv.out.symm, rfl⟩

theorem strings_HasPrefix_any (s p : Str) (w : World) (hs : s.length ≤ 9223372036854775807) (hp : p.length ≤ 9223372036854775807) :
    Calls Tryd.prog 46 #[.string ⟨s.toArray⟩, .string ⟨p.toArray⟩] w fun e w' => e = .returned (.bool (p.isPrefixOf s)) ∧ w = w' := by
  obtain ⟨v, hv⟩ : ∃ v, v = p.isPrefixOf s := ⟨_, rfl⟩
  have hc := stringslite_HasPrefix_any s p w hs hp
  rw [← hv] at hc ⊢
  clear hv
  go_enter Tryd.func46, Tryd.ntmps46
  go_wp2_with (go_at_call 61; refine hc.mono ?_; rintro e w' ⟨rfl, rfl⟩)
  go_ret
  exact ⟨rfl, rfl⟩

set_option maxHeartbeats 400000 in
theorem spec_l4In_any (d p : Str) (w : World) :
    Calls Tryd.prog 23 #[.string ⟨d.toArray⟩, .string ⟨p.toArray⟩] w fun e w' => e = .returned (.bool (below d p)) ∧ w = w' := by
  have hv := below_iff d p
  by_cases hl : d.length < p.length
  · have hl' : (d.length : Int) < (p.length : Int) := by omega
    obtain ⟨hc1, hc2⟩ := Tryd.cutStrTo p d.length (by omega)
    obtain ⟨c, hc⟩ : ∃ c, p[d.length]? = some c := ⟨_, List.getElem?_eq_getElem hl⟩
    have hb := byte_at hc (by rw [size_mk]; exact hl)
    rw [hc] at hv
    obtain ⟨x, hx⟩ : ∃ x, x = p.take d.length := ⟨_, rfl⟩
    rw [← hx] at hc1 hc2 hv
    have Hv := Lib.hid hv
    clear hx hv hc
    by_cases he : x = d
    · have hbe : (x == d) = true := by simp [he]
      have He := Lib.hid he
      clear he
      by_cases h47 : c = 47
      · have h47' : ((c.toNat : Int) == 47) = true := by rw [h47]; rfl
        have H47 := Lib.hid h47
        clear h47
        go_enter Tryd.func23, Tryd.ntmps23
        go_wp2
        go_ret
        exact ⟨ret_bool (by rw [Hv.out]; simp [He.out, H47.out]; omega), rfl⟩
      · have h47' : ((c.toNat : Int) == 47) = false := by
          simp
          intro e
          exact h47 (UInt8.toNat_inj.1 (by simpa using (by omega : c.toNat = 47)))
        go_enter Tryd.func23, Tryd.ntmps23
        go_wp2
        go_ret
        exact ⟨ret_bool (by rw [Hv.out]; simp [He.out, h47]), rfl⟩
    · have hbe : (x == d) = false := by simp [he]
      go_enter Tryd.func23, Tryd.ntmps23
      go_wp2
      go_ret
      exact ⟨ret_bool (by rw [Hv.out]; simp [he]), rfl⟩
  · have hl' : ¬ (d.length : Int) < (p.length : Int) := by omega
    have Hv := Lib.hid hv
    clear hv
    go_enter Tryd.func23, Tryd.ntmps23
    go_wp2
    go_ret
    exact ⟨ret_bool (by rw [Hv.out]; simp [hl]), rfl⟩


set_option maxHeartbeats 400000 in
theorem impl_PathIn_any (d p : Str) (w : World) (hl1 : d.length ≤ 1073741824) (hl2 : p.length ≤ 1073741824) :
    Calls Tryd.prog 38 #[.string ⟨d.toArray⟩, .string ⟨p.toArray⟩] w fun e w' => e = .returned (.bool (pathIn d p)) ∧ Below w.heap.size w w' := by
  have hv : pathIn d p = (pathOk d && pathOk p && below d p) := rfl
  obtain ⟨v, ev⟩ : ∃ v, v = pathIn d p := ⟨_, rfl⟩
  rw [← ev] at hv ⊢
  clear ev
  cases h1 : pathOk d
  · rw [h1] at hv
    have Hv := Lib.hid hv
    clear hv
    go_enter Tryd.func38, Tryd.ntmps38
    go_wp2_with (go_at_call 37; refine (impl_PathOk_any _ _ (by omega)).mono ?_; rintro e w' ⟨rfl, hb⟩)
    go_ret
    exact ⟨ret_bool (by rw [Hv.out]; rfl), hb⟩
  · cases h2 : pathOk p
    · rw [h1, h2] at hv
      have Hv := Lib.hid hv
      clear hv
      go_enter Tryd.func38, Tryd.ntmps38
      go_wp2_with fail
      refine Calls.mono (impl_PathOk_any _ _ hl1) ?_
      rintro e w1 ⟨rfl, hb1⟩
      go_wp2_with fail
      refine Calls.mono (impl_PathOk_any _ _ hl2) ?_
      rintro e w2 ⟨rfl, hb2⟩
      go_wp2
      go_ret
      exact ⟨ret_bool (by rw [Hv.out]; rfl), hb1.trans (hb2.mono hb1.size)⟩
    · rw [h1, h2] at hv
      obtain ⟨u, eu⟩ : ∃ u, u = below d p := ⟨_, rfl⟩
      have hc : ∀ w, Calls Tryd.prog 46 #[.string ⟨p.toArray⟩, .string ⟨(d ++ [47]).toArray⟩] w fun e w' => e = .returned (.bool u) ∧ w = w' := fun w => by
        rw [eu]
        exact strings_HasPrefix_any p (d ++ [47]) w (by omega) (by simp; omega)
      rw [← eu] at hv
      have Hv := Lib.hid hv
      clear hv eu
      have happ : (⟨d.toArray⟩ : ByteArray) ++ ⟨#[47]⟩ = ⟨(d ++ [47]).toArray⟩ := bytes_app d [47]
      go_enter Tryd.func38, Tryd.ntmps38
      go_wp2_with fail
      refine Calls.mono (impl_PathOk_any _ _ hl1) ?_
      rintro e w1 ⟨rfl, hb1⟩
      go_wp2_with fail
      refine Calls.mono (impl_PathOk_any _ _ hl2) ?_
      rintro e w2 ⟨rfl, hb2⟩
      go_wp2_with fail
      refine Calls.mono (hc _) ?_
      rintro e w' ⟨rfl, rfl⟩
      go_wp2
      go_ret
      exact ⟨ret_bool (by rw [Hv.out]; simp), hb1.trans (hb2.mono hb1.size)⟩
end Go.Proofs.YtgcioajaglljfaaDoor
