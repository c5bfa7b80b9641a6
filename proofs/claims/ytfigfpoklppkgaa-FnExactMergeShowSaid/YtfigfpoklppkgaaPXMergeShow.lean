/- FnExactMergeShowSaid is proved: The program's MergeShow answers as the reference's, at all arguments, and leaves them as they were. -/
import Derived.Test.YtfigfpoklppkgaaLawXMergeShow
import Derived.Test.YtfigfpoklppkgaaOpen
namespace Go.Proofs.Ytfigfpoklppkgaa.fnExactMergeShow
open Go.ChangeShapes Go.WideShapes Go.ChangeAt Go.RowKit
theorem own : ownKnob Try.prog.godebug = none := by kernel_rfl
theorem laid : laidOutB Try.prog = true := by kernel_rfl
theorem readable : ∀ t ∈ Try.f3.params.toList, Try.prog.readableRec t = true ∧ t < Try.prog.types.size := by
  have h : (Try.f3.params.toList.all fun t => Try.prog.readableRec t && decide (t < Try.prog.types.size)) = true := by kernel_rfl
  intro t ht
  have h2 := List.all_eq_true.1 h t ht
  simpa using h2
set_option maxRecDepth 100000 in
theorem lifted (os : Os) (started : os.Started) (H : Type) (enc : TypeId × Value → H) :
    ReturnsInHanded {} Try.checked os 3 .any (Rows.fnExactMergeShowSpec.pre6 enc Try.prog Try.f3 Rows.fnExactMergeShowRow.domain false) (Rows.fnExactMergeShowSpec.post enc Try.prog Try.f3 false true false false) := by
  refine returnsInHanded_of_change (C := Try.checked) own started (by kernel_rfl) Try.func3
    (ChangeSpec.witness6 (enc := enc) (C := Try.checked) false ⟨#[], #[.slice none 0 0, .slice none 0 0, .slice none 0 0], []⟩ 8 (by kernel_rfl) (by kernel_rfl) (by kernel_rfl) (by kernel_rfl)) ?_
  intro W base args ds gs before hval0 hW hcnd _
  have hval : ∀ (j : Nat) t v, Try.f3.params[j]? = some t → args[j]? = some v → Value.okWide Try.prog W .any base t v := hval0
  have hW' := hW
  obtain ⟨p, q, hA0, hV, rfl, hfz, hnd⟩ := hW
  have hA : DataW.TrodAll enc Try.prog W 0 (fun _ => true) true Try.f3.params.toList args.toList ds p := hA0
  obtain ⟨rfl, rfl⟩ := trodVars_none hV
  simp only [List.append_nil] at hW'
  have hA1 := hA
  rw [Try.params3] at hA hval
  obtain ⟨v0, vs0, d0, ds0, p0, q0, hargs, rfl, rfl, h0, r0⟩ := trodAll_cons hA
  obtain ⟨v1, vs1, d1, ds1, p1, q1, rfl, rfl, rfl, h1, r1⟩ := trodAll_cons r0
  obtain ⟨v2, vs2, d2, ds2, p2, q2, rfl, rfl, rfl, h2, r2⟩ := trodAll_cons r1
  obtain ⟨rfl, rfl, rfl⟩ := trodAll_nil r2
  obtain rfl : args = #[v0, v1, v2] := by cases args; simp_all
  obtain ⟨a0, n0, c0, rfl⟩ := okWide_slice Try.underlying22 (hval 0 22 v0 rfl rfl)
  obtain ⟨fuel0, hf0⟩ := h0
  obtain ⟨xs0, hok0, _, hp0⟩ := (dec_slice (e' := 9) cText_len (by omega) Try.underlying22 (by kernel_rfl) (dec_str Try.underlying9)) _ _ _ hf0
  obtain ⟨u0, hu0, hr0⟩ := hp0 0 _ rfl
  obtain rfl : Value.slice a0 n0 c0 = u0 := by simpa [Value.cells] using hu0
  obtain ⟨a1, n1, c1, rfl⟩ := okWide_slice Try.underlying22 (hval 1 22 v1 rfl rfl)
  obtain ⟨fuel1, hf1⟩ := h1
  obtain ⟨xs1, hok1, _, hp1⟩ := (dec_slice (e' := 9) cText_len (by omega) Try.underlying22 (by kernel_rfl) (dec_str Try.underlying9)) _ _ _ hf1
  obtain ⟨u1, hu1, hr1⟩ := hp1 0 _ rfl
  obtain rfl : Value.slice a1 n1 c1 = u1 := by simpa [Value.cells] using hu1
  obtain ⟨a2, n2, c2, rfl⟩ := okWide_slice Try.underlying22 (hval 2 22 v2 rfl rfl)
  obtain ⟨fuel2, hf2⟩ := h2
  obtain ⟨xs2, hok2, _, hp2⟩ := (dec_slice (e' := 9) cText_len (by omega) Try.underlying22 (by kernel_rfl) (dec_str Try.underlying9)) _ _ _ hf2
  obtain ⟨u2, hu2, hr2⟩ := hp2 0 _ rfl
  obtain rfl : Value.slice a2 n2 c2 = u2 := by simpa [Value.cells] using hu2
  refine (law_XMergeShow _ _ _ xs0 _ _ _ xs1 _ _ _ xs2 W hr0 hok0 hr1 hok1 hr2 hok2).mono fun e W' ⟨he, hb⟩ => ?_
  subst he
  exact ⟨_, rfl, law_post laid Try.underlying4 (by kernel_rfl) rfl rfl readable hA1 hW' hb⟩
theorem over : Rows.fnExactMergeShowRow.holds Try.pinned (OpenSpec.ofChange Rows.fnExactMergeShowSpec) :=
  OpenClaim.holds_of_wide 3 Try.f3 rfl rfl rfl rfl rfl rfl rfl ⟨rfl, rfl, rfl, rfl, rfl⟩ rfl rfl rfl rfl rfl (by kernel_rfl) Try.func3 (by kernel_rfl)
    (of_decide_eq_true (by kernel_rfl)) (by unfold Func.isWrapper; first | (rw [if_pos (by decide +kernel)]; kernel_rfl) | (rw [if_neg (by decide +kernel)]; exact ⟨rfl, rfl⟩))
    (fun os started H enc _ => lifted os started H enc)
theorem proved : Rows.FnExactMergeShowSaid := over
#print axioms proved
end Go.Proofs.Ytfigfpoklppkgaa.fnExactMergeShow
