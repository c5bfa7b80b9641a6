/- FnExactUniteTreeCardSaid is proved: The program's UniteTree answers as the reference's, at all arguments, and leaves them as they were. -/
import Derived.Test.YtenkceeicmfjhaaGreatDoorLawXUniteTree
import Derived.Test.YtenkceeicmfjhaaGreatDoorZ26
import Derived.Test.YtenkceeicmfjhaaGreatDoorOpen
import Derived.Test.YtenkceeicmfjhaaGreatDoorTie
import Derived.Test.YtenkceeicmfjhaaGreatDoorCards
import Derived.LaidMore
import Derived.Lay
import Derived.SevenTiedAt
namespace Go.Proofs.YtenkceeicmfjhaaGreatDoor.fnExactUniteTree
open Go.ChangeShapes Go.WideShapes Go.ChangeAt Go.RowKit
theorem own : ownKnob Tryz.prog.godebug = none := by kernel_rfl
theorem laid : laidOutB Tryz.prog = true := by kernel_rfl
theorem readable : ∀ t ∈ Tryz.f3.params.toList, Tryz.prog.readableRec t = true ∧ t < Tryz.prog.types.size := by
  have h : (Tryz.f3.params.toList.all fun t => Tryz.prog.readableRec t && decide (t < Tryz.prog.types.size)) = true := by kernel_rfl
  intro t ht
  have h2 := List.all_eq_true.1 h t ht
  simpa using h2
set_option maxRecDepth 100000 in
theorem lifted (os : Os) (started : os.Started) (H : Type) (enc : TypeId × Value → H) :
    ReturnsInHanded {} Tryz.checked os 3 .any (fun w args => (Rows.fnExactUniteTreeSpec.pre enc Tryz.prog Tryz.f3 Rows.fnExactUniteTreeRow.domain false w args ∧ laidMetH Tryz.prog Rows.fnExactUniteTreeRow.laid w) ∧ sizedMet enc Tryz.prog Tryz.f3 (OpenSpec.ofChange Rows.fnExactUniteTreeSpec) false w args)
      (Rows.fnExactUniteTreeSpec.post enc Tryz.prog Tryz.f3 false true false false) := by
  refine returnsInHanded_of_change_and (C := Tryz.checked) (X := fun w _ => laidMetH Tryz.prog Rows.fnExactUniteTreeRow.laid w) (fun _ _ _ hh h => h.of_heap hh) own started (by kernel_rfl) Tryz.func3
    (ChangeSpec.witness_shaped (enc := enc) (C := Tryz.checked) (os := os) (X := fun w _ => laidMetH Tryz.prog Rows.fnExactUniteTreeRow.laid w) false (World.laidAll Tryz.prog os Rows.fnExactUniteTreeRow.laid) #[.agg #[.slice none 0 0, .slice none 0 0], .int .i64 0, .int .i64 0] 8 (World.laidAll_os _ _ _)
      (World.shaped_of_ZipB (by kernel_rfl) (by kernel_rfl)) (by kernel_rfl) (by kernel_rfl) (by kernel_rfl)
      (by rw [MakeChecks.laidMetH_plain _ _ _ (by kernel_rfl)]; exact laidMet_laidAll _ (by kernel_rfl) (by kernel_rfl))) ?_
  intro W base args ds gs before hval0 hW hcnd _ hL _
  have hval : ∀ (j : Nat) t v, Tryz.f3.params[j]? = some t → args[j]? = some v → Value.okWide Tryz.prog W .any base t v := hval0
  have hW' := hW
  obtain ⟨p, q, hA0, hV, rfl, hfz, hnd⟩ := hW
  have hA : DataW.TrodAll enc Tryz.prog W 0 (fun _ => true) true Tryz.f3.params.toList args.toList ds p := hA0
  obtain ⟨rfl, rfl⟩ := trodVars_none hV
  simp only [List.append_nil] at hW'
  have hA1 := hA
  rw [Tryz.params3] at hA hval
  obtain ⟨v0, vs0, d0, ds0, p0, q0, hargs, rfl, rfl, h0, r0⟩ := trodAll_cons hA
  obtain ⟨v1, vs1, d1, ds1, p1, q1, rfl, rfl, rfl, h1, r1⟩ := trodAll_cons r0
  obtain ⟨v2, vs2, d2, ds2, p2, q2, rfl, rfl, rfl, h2, r2⟩ := trodAll_cons r1
  obtain ⟨rfl, rfl, rfl⟩ := trodAll_nil r2
  obtain rfl : args = #[v0, v1, v2] := by cases args; simp_all
  obtain ⟨fuel0, hf0⟩ := h0
  obtain ⟨cs0, rfl, hcs0⟩ := okWide_struct Tryz.underlying25 (hval 0 25 v0 rfl rfl)
  obtain ⟨xs0, hok0, _, hp0⟩ := (dec_Repo _ _ _ _) _ _ _ hf0
  obtain ⟨u00, hu00, hr00⟩ := hp0 0 _ rfl
  obtain ⟨A00, n00, c00, rfl⟩ := hr00.shape
  obtain ⟨u01, hu01, hr01⟩ := hp0 1 _ rfl
  obtain ⟨A01, n01, c01, rfl⟩ := hr01.shape
  obtain rfl := two_cells (hcs0.trans (by kernel_rfl)) (by simpa [Value.cells] using hu00) (by simpa [Value.cells] using hu01)
  obtain ⟨fuel1, hf1⟩ := h1
  obtain ⟨m1, rfl⟩ := okWide_int Tryz.underlying3 (hval 1 3 v1 rfl rfl)
  obtain ⟨xs1, hok1, _, hp1⟩ := (dec_int Tryz.underlying3) _ _ _ hf1
  obtain ⟨u1, hu1, hr1⟩ := hp1 0 _ rfl
  obtain rfl : Value.int .i64 m1 = u1 := by simpa [Value.cells] using hu1
  obtain rfl : m1 = xs1 := by have := hr1.int_; simpa using this
  obtain ⟨fuel2, hf2⟩ := h2
  obtain ⟨m2, rfl⟩ := okWide_int Tryz.underlying3 (hval 2 3 v2 rfl rfl)
  obtain ⟨xs2, hok2, _, hp2⟩ := (dec_int Tryz.underlying3) _ _ _ hf2
  obtain ⟨u2, hu2, hr2⟩ := hp2 0 _ rfl
  obtain rfl : Value.int .i64 m2 = u2 := by simpa [Value.cells] using hu2
  obtain rfl : m2 = xs2 := by have := hr2.int_; simpa using this
  refine (law_XUniteTree xs0 _ _ _ _ _ _ m1 m2 W hr00 hr01 hok0 hok1 hok2).mono fun e W' ⟨he, hb⟩ => ?_
  subst he
  exact ⟨_, rfl, law_post laid Tryz.underlying4 (by kernel_rfl) rfl rfl readable hA1 hW' hb⟩
theorem over : Rows.fnExactUniteTreeRow.holds Tryz.pinned (OpenSpec.ofChange Rows.fnExactUniteTreeSpec) :=
  OpenClaim.holds_of_wide 3 Tryz.f3 rfl rfl rfl rfl rfl rfl rfl ⟨rfl, rfl, rfl, rfl, rfl⟩ rfl rfl rfl rfl rfl (by kernel_rfl) Tryz.func3 (by kernel_rfl)
    (of_decide_eq_true (by kernel_rfl)) (by unfold Func.isWrapper; first | (rw [if_pos (by decide +kernel)]; kernel_rfl) | (rw [if_neg (by decide +kernel)]; exact ⟨rfl, rfl⟩))
    (fun os started H enc _ => lifted os started H enc)
theorem proved : Rows.FnExactUniteTreeCardSaid :=
  Claim7.holds_tied_plain_at .later [] [.data, .pinned] true (true, "59fdb018efb82694feca2465e31cc9ad2e5fcd597f4a93020e104b78f05597c9") false over (fun _ h => by cases h) (by kernel_rfl) (fun _ h => by cases h) fnExactUniteTree_row_tie rfl ⟨rfl, rfl⟩ (by kernel_rfl) rfl
    (fun f fn hf hfn => by
      obtain rfl : f = 3 := Option.some.inj ((show Tryz.prog.funcNamed Tryz.f3.name = some 3 by kernel_rfl).symm.trans hf) |>.symm
      obtain rfl : fn = Tryz.f3 := (Option.some.inj (Tryz.func3.symm.trans hfn)).symm
      exact ⟨by kernel_rfl, fun j t ht => by
        rw [Tryz.params3] at ht
        have hm : t ∈ [25, 3, 3] := by simpa using Array.mem_of_getElem? ht
        have hall : ([25, 3, 3].all fun u => !Tryz.prog.wantsStandIn u) = true := by kernel_rfl
        exact (show Tryz.prog.wantsStandIn t = false by simpa using List.all_eq_true.1 hall t hm)⟩)
    (by kernel_rfl)
#print axioms proved
end Go.Proofs.YtenkceeicmfjhaaGreatDoor.fnExactUniteTree
