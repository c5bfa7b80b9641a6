/- FnExactChangesDoCardSaid is proved: The program's ChangesDo answers as the reference's, at all arguments, and leaves them as they were. -/
import Derived.Test.YtmickenajhppoaaGreatDoorLawXChangesDo
import Derived.Test.YtmickenajhppoaaGreatDoorZ26
import Derived.Test.YtmickenajhppoaaGreatDoorOpen
import Derived.Test.YtmickenajhppoaaGreatDoorTie
import Derived.Test.YtmickenajhppoaaGreatDoorCards
import Derived.LaidMore
import Derived.Lay
import Derived.SevenTiedAt
namespace Go.Proofs.YtmickenajhppoaaGreatDoor.fnExactChangesDo
open Go.ChangeShapes Go.WideShapes Go.ChangeAt Go.RowKit
theorem own : ownKnob Tryz.prog.godebug = none := by kernel_rfl
theorem laid : laidOutB Tryz.prog = true := by kernel_rfl
theorem readable : ∀ t ∈ Tryz.f3.params.toList, Tryz.prog.readableRec t = true ∧ t < Tryz.prog.types.size := by
  have h : (Tryz.f3.params.toList.all fun t => Tryz.prog.readableRec t && decide (t < Tryz.prog.types.size)) = true := by kernel_rfl
  intro t ht
  have h2 := List.all_eq_true.1 h t ht
  simpa using h2
set_option maxRecDepth 100000 in
theorem lifted (os : Os) (started : os.Started) (H : Type) (enc : TypeId × Value → H) :
    ReturnsInHanded {} Tryz.checked os 3 .any (fun w args => (Rows.fnExactChangesDoSpec.pre enc Tryz.prog Tryz.f3 Rows.fnExactChangesDoRow.domain false w args ∧ laidMetH Tryz.prog Rows.fnExactChangesDoRow.laid w) ∧ sizedMet enc Tryz.prog Tryz.f3 (OpenSpec.ofChange Rows.fnExactChangesDoSpec) false w args)
      (Rows.fnExactChangesDoSpec.post enc Tryz.prog Tryz.f3 false true false false) := by
  refine returnsInHanded_of_change_and (C := Tryz.checked) (X := fun w _ => laidMetH Tryz.prog Rows.fnExactChangesDoRow.laid w) (fun _ _ _ hh h => h.of_heap hh) own started (by kernel_rfl) Tryz.func3
    (ChangeSpec.witness_shaped (enc := enc) (C := Tryz.checked) (os := os) (X := fun w _ => laidMetH Tryz.prog Rows.fnExactChangesDoRow.laid w) false (World.laidAll Tryz.prog os Rows.fnExactChangesDoRow.laid) #[.slice none 0 0, .slice none 0 0] 8 (World.laidAll_os _ _ _)
      (World.shaped_of_ZipB (by kernel_rfl) (by kernel_rfl)) (by kernel_rfl) (by kernel_rfl) (by kernel_rfl)
      (by rw [MakeChecks.laidMetH_plain _ _ _ (by kernel_rfl)]; exact laidMet_laidAll _ (by kernel_rfl) (by kernel_rfl))) ?_
  intro W base args ds gs before hval0 hW hcnd _ hL _
  have hval : ∀ (j : Nat) t v, Tryz.f3.params[j]? = some t → args[j]? = some v → Value.okWide Tryz.prog W .any base t v := hval0
  have hW' := hW
  obtain ⟨p, q, hA0, hV, rfl, hfz, hnd⟩ := hW
  have hA : DataW.TrodAll enc Tryz.prog W 0 (fun _ => true) true Tryz.f3.params.toList args.toList ds p := hA0
  obtain ⟨rfl, rfl⟩ := trodVars_none hV
  simp only [List.append_nil] at hW'
  have hA1 := hA
  rw [Tryz.params3] at hA hval
  obtain ⟨v0, vs0, d0, ds0, p0, q0, hargs, rfl, rfl, h0, r0⟩ := trodAll_cons hA
  obtain ⟨v1, vs1, d1, ds1, p1, q1, rfl, rfl, rfl, h1, r1⟩ := trodAll_cons r0
  obtain ⟨rfl, rfl, rfl⟩ := trodAll_nil r1
  obtain rfl : args = #[v0, v1] := by cases args; simp_all
  obtain ⟨a0, n0, c0, rfl⟩ := okWide_slice Tryz.underlying22 (hval 0 22 v0 rfl rfl)
  obtain ⟨fuel0, hf0⟩ := h0
  obtain ⟨xs0, hok0, _, hp0⟩ := (dec_slice (e' := 48) cFiles_len (by omega) Tryz.underlying22 (by kernel_rfl) (dec_File _ _ _ _)) _ _ _ hf0
  obtain ⟨u0, hu0, hr0⟩ := hp0 0 _ rfl
  obtain rfl : Value.slice a0 n0 c0 = u0 := by simpa [Value.cells] using hu0
  obtain ⟨a1, n1, c1, rfl⟩ := okWide_slice Tryz.underlying23 (hval 1 23 v1 rfl rfl)
  obtain ⟨fuel1, hf1⟩ := h1
  obtain ⟨xs1, hok1, _, hp1⟩ := (dec_slice (e' := 52) cChanges_len (by omega) Tryz.underlying23 (by kernel_rfl) (dec_Change _ _ _ _)) _ _ _ hf1
  obtain ⟨u1, hu1, hr1⟩ := hp1 0 _ rfl
  obtain rfl : Value.slice a1 n1 c1 = u1 := by simpa [Value.cells] using hu1
  refine (law_XChangesDo _ _ _ xs0 _ _ _ xs1 W hr0 hok0 hr1 hok1).mono fun e W' ⟨he, hb⟩ => ?_
  subst he
  exact ⟨_, rfl, law_post laid Tryz.underlying4 (by kernel_rfl) rfl rfl readable hA1 hW' hb⟩
theorem over : Rows.fnExactChangesDoRow.holds Tryz.pinned (OpenSpec.ofChange Rows.fnExactChangesDoSpec) :=
  OpenClaim.holds_of_wide 3 Tryz.f3 rfl rfl rfl rfl rfl rfl rfl ⟨rfl, rfl, rfl, rfl, rfl⟩ rfl rfl rfl rfl rfl (by kernel_rfl) Tryz.func3 (by kernel_rfl)
    (of_decide_eq_true (by kernel_rfl)) (by unfold Func.isWrapper; first | (rw [if_pos (by decide +kernel)]; kernel_rfl) | (rw [if_neg (by decide +kernel)]; exact ⟨rfl, rfl⟩))
    (fun os started H enc _ => lifted os started H enc)
theorem proved : Rows.FnExactChangesDoCardSaid :=
  Claim7.holds_tied_plain_at .later [] [.data, .pinned] true (true, "ccefdcf4c19c170f20e3983e289b114b6a117f568da44ddb7cbd3e4cc5164ac6") false over (fun _ h => by cases h) (by kernel_rfl) (fun _ h => by cases h) fnExactChangesDo_row_tie rfl ⟨rfl, rfl⟩ (by kernel_rfl) rfl
    (fun f fn hf hfn => by
      obtain rfl : f = 3 := Option.some.inj ((show Tryz.prog.funcNamed Tryz.f3.name = some 3 by kernel_rfl).symm.trans hf) |>.symm
      obtain rfl : fn = Tryz.f3 := (Option.some.inj (Tryz.func3.symm.trans hfn)).symm
      exact ⟨by kernel_rfl, fun j t ht => by
        rw [Tryz.params3] at ht
        have hm : t ∈ [22, 23] := by simpa using Array.mem_of_getElem? ht
        have hall : ([22, 23].all fun u => !Tryz.prog.wantsStandIn u) = true := by kernel_rfl
        exact (show Tryz.prog.wantsStandIn t = false by simpa using List.all_eq_true.1 hall t hm)⟩)
    (by kernel_rfl)
#print axioms proved
end Go.Proofs.YtmickenajhppoaaGreatDoor.fnExactChangesDo
