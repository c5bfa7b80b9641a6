/- Several of my texts in one: DFile, DHunk, DChange. -/
import Derived.Test.YtmickenajhppoaaGreatDoorOpen
import Derived.Test.YtmickenajhppoaaGreatDoorHFile
import Derived.Test.YtmickenajhppoaaGreatDoorHHunk
import Derived.Test.YtmickenajhppoaaGreatDoorHChange
/- An argument of type []laws.File, read as plain data. Printed by wip/harness.py. -/
namespace Go.Proofs.YtmickenajhppoaaGreatDoor
open Go.RowKit Go.WideShapes Go.ChangeShapes Go.Deep
set_option maxRecDepth 100000 in
theorem dec_File {H : Type} (enc : TypeId × Value → H) (w : World) (spare : Nat → Bool) (held : Bool) : Dec enc Tryz.prog w spare held 40 2 cFiles okFile := by
  intro fuel cs x h
  obtain ⟨xs, n, _, _, hcl, hxl, hf⟩ := DataW.trod_struct Tryz.underlying40 h
  have hC : Tryz.prog.cellsOf 40 = 2 := by kernel_rfl
  rw [hC] at hcl
  match cs, hcl with
  | [u0, u1], _ =>
    have e0 : DataW.trod enc Tryz.prog w 0 spare held n 9 (([u0, u1].drop 0).take (Tryz.prog.cellsOf 9)) = xs[0]? := hf 0 _ rfl
    rw [show Tryz.prog.cellsOf 9 = 1 by kernel_rfl] at e0
    obtain ⟨y0, hy0⟩ : ∃ y, xs[0]? = some y := ⟨_, List.getElem?_eq_getElem (by rw [hxl]; decide)⟩
    rw [hy0] at e0
    obtain ⟨a0, ok0, _, p0⟩ := (dec_str Tryz.underlying9) _ _ _ e0
    have e1 : DataW.trod enc Tryz.prog w 0 spare held n 38 (([u0, u1].drop 1).take (Tryz.prog.cellsOf 38)) = xs[1]? := hf 1 _ rfl
    rw [show Tryz.prog.cellsOf 38 = 1 by kernel_rfl] at e1
    obtain ⟨y1, hy1⟩ : ∃ y, xs[1]? = some y := ⟨_, List.getElem?_eq_getElem (by rw [hxl]; decide)⟩
    rw [hy1] at e1
    obtain ⟨a1, ok1, _, p1⟩ := (dec_slice (e' := 9) cText_len (by omega) Tryz.underlying38 (by kernel_rfl) (dec_str Tryz.underlying9)) _ _ _ e1
    refine ⟨⟨a0, a1⟩, ?_, rfl, fun j p hj => ?_⟩
    · exact ⟨ok0, ok1⟩
    · match j, hj with
      | 0, hj => obtain ⟨u, hu, hr⟩ := p0 0 p hj; exact ⟨u, hu, hr⟩
      | 1, hj => obtain ⟨u, hu, hr⟩ := p1 0 p hj; exact ⟨u, hu, hr⟩
      | j + 2, hj => simp [cFiles] at hj
end Go.Proofs.YtmickenajhppoaaGreatDoor

/- An argument of type []laws.Hunk, read as plain data. Printed by wip/harness.py. -/
namespace Go.Proofs.YtmickenajhppoaaGreatDoor
open Go.RowKit Go.WideShapes Go.ChangeShapes Go.Deep
set_option maxRecDepth 100000 in
theorem dec_Hunk {H : Type} (enc : TypeId × Value → H) (w : World) (spare : Nat → Bool) (held : Bool) : Dec enc Tryz.prog w spare held 86 3 cHunks okHunk := by
  intro fuel cs x h
  obtain ⟨xs, n, _, _, hcl, hxl, hf⟩ := DataW.trod_struct Tryz.underlying86 h
  have hC : Tryz.prog.cellsOf 86 = 3 := by kernel_rfl
  rw [hC] at hcl
  match cs, hcl with
  | [u0, u1, u2], _ =>
    have e0 : DataW.trod enc Tryz.prog w 0 spare held n 3 (([u0, u1, u2].drop 0).take (Tryz.prog.cellsOf 3)) = xs[0]? := hf 0 _ rfl
    rw [show Tryz.prog.cellsOf 3 = 1 by kernel_rfl] at e0
    obtain ⟨y0, hy0⟩ : ∃ y, xs[0]? = some y := ⟨_, List.getElem?_eq_getElem (by rw [hxl]; decide)⟩
    rw [hy0] at e0
    obtain ⟨a0, ok0, _, p0⟩ := (dec_int Tryz.underlying3) _ _ _ e0
    have e1 : DataW.trod enc Tryz.prog w 0 spare held n 38 (([u0, u1, u2].drop 1).take (Tryz.prog.cellsOf 38)) = xs[1]? := hf 1 _ rfl
    rw [show Tryz.prog.cellsOf 38 = 1 by kernel_rfl] at e1
    obtain ⟨y1, hy1⟩ : ∃ y, xs[1]? = some y := ⟨_, List.getElem?_eq_getElem (by rw [hxl]; decide)⟩
    rw [hy1] at e1
    obtain ⟨a1, ok1, _, p1⟩ := (dec_slice (e' := 9) cText_len (by omega) Tryz.underlying38 (by kernel_rfl) (dec_str Tryz.underlying9)) _ _ _ e1
    have e2 : DataW.trod enc Tryz.prog w 0 spare held n 38 (([u0, u1, u2].drop 2).take (Tryz.prog.cellsOf 38)) = xs[2]? := hf 2 _ rfl
    rw [show Tryz.prog.cellsOf 38 = 1 by kernel_rfl] at e2
    obtain ⟨y2, hy2⟩ : ∃ y, xs[2]? = some y := ⟨_, List.getElem?_eq_getElem (by rw [hxl]; decide)⟩
    rw [hy2] at e2
    obtain ⟨a2, ok2, _, p2⟩ := (dec_slice (e' := 9) cText_len (by omega) Tryz.underlying38 (by kernel_rfl) (dec_str Tryz.underlying9)) _ _ _ e2
    refine ⟨⟨a0, a1, a2⟩, ?_, rfl, fun j p hj => ?_⟩
    · exact ⟨ok0, ok1, ok2⟩
    · match j, hj with
      | 0, hj => obtain ⟨u, hu, hr⟩ := p0 0 p hj; exact ⟨u, hu, hr⟩
      | 1, hj => obtain ⟨u, hu, hr⟩ := p1 0 p hj; exact ⟨u, hu, hr⟩
      | 2, hj => obtain ⟨u, hu, hr⟩ := p2 0 p hj; exact ⟨u, hu, hr⟩
      | j + 3, hj => simp [cHunks] at hj
end Go.Proofs.YtmickenajhppoaaGreatDoor

/- An argument of type []laws.Change, read as plain data. Printed by wip/harness.py. -/
namespace Go.Proofs.YtmickenajhppoaaGreatDoor
open Go.RowKit Go.WideShapes Go.ChangeShapes Go.Deep
set_option maxRecDepth 100000 in
theorem dec_Change {H : Type} (enc : TypeId × Value → H) (w : World) (spare : Nat → Bool) (held : Bool) : Dec enc Tryz.prog w spare held 44 5 cChanges okChange := by
  intro fuel cs x h
  obtain ⟨xs, n, _, _, hcl, hxl, hf⟩ := DataW.trod_struct Tryz.underlying44 h
  have hC : Tryz.prog.cellsOf 44 = 5 := by kernel_rfl
  rw [hC] at hcl
  match cs, hcl with
  | [u0, u1, u2, u3, u4], _ =>
    have e0 : DataW.trod enc Tryz.prog w 0 spare held n 3 (([u0, u1, u2, u3, u4].drop 0).take (Tryz.prog.cellsOf 3)) = xs[0]? := hf 0 _ rfl
    rw [show Tryz.prog.cellsOf 3 = 1 by kernel_rfl] at e0
    obtain ⟨y0, hy0⟩ : ∃ y, xs[0]? = some y := ⟨_, List.getElem?_eq_getElem (by rw [hxl]; decide)⟩
    rw [hy0] at e0
    obtain ⟨a0, ok0, _, p0⟩ := (dec_int Tryz.underlying3) _ _ _ e0
    have e1 : DataW.trod enc Tryz.prog w 0 spare held n 9 (([u0, u1, u2, u3, u4].drop 1).take (Tryz.prog.cellsOf 9)) = xs[1]? := hf 1 _ rfl
    rw [show Tryz.prog.cellsOf 9 = 1 by kernel_rfl] at e1
    obtain ⟨y1, hy1⟩ : ∃ y, xs[1]? = some y := ⟨_, List.getElem?_eq_getElem (by rw [hxl]; decide)⟩
    rw [hy1] at e1
    obtain ⟨a1, ok1, _, p1⟩ := (dec_str Tryz.underlying9) _ _ _ e1
    have e2 : DataW.trod enc Tryz.prog w 0 spare held n 9 (([u0, u1, u2, u3, u4].drop 2).take (Tryz.prog.cellsOf 9)) = xs[2]? := hf 2 _ rfl
    rw [show Tryz.prog.cellsOf 9 = 1 by kernel_rfl] at e2
    obtain ⟨y2, hy2⟩ : ∃ y, xs[2]? = some y := ⟨_, List.getElem?_eq_getElem (by rw [hxl]; decide)⟩
    rw [hy2] at e2
    obtain ⟨a2, ok2, _, p2⟩ := (dec_str Tryz.underlying9) _ _ _ e2
    have e3 : DataW.trod enc Tryz.prog w 0 spare held n 38 (([u0, u1, u2, u3, u4].drop 3).take (Tryz.prog.cellsOf 38)) = xs[3]? := hf 3 _ rfl
    rw [show Tryz.prog.cellsOf 38 = 1 by kernel_rfl] at e3
    obtain ⟨y3, hy3⟩ : ∃ y, xs[3]? = some y := ⟨_, List.getElem?_eq_getElem (by rw [hxl]; decide)⟩
    rw [hy3] at e3
    obtain ⟨a3, ok3, _, p3⟩ := (dec_slice (e' := 9) cText_len (by omega) Tryz.underlying38 (by kernel_rfl) (dec_str Tryz.underlying9)) _ _ _ e3
    have e4 : DataW.trod enc Tryz.prog w 0 spare held n 42 (([u0, u1, u2, u3, u4].drop 4).take (Tryz.prog.cellsOf 42)) = xs[4]? := hf 4 _ rfl
    rw [show Tryz.prog.cellsOf 42 = 1 by kernel_rfl] at e4
    obtain ⟨y4, hy4⟩ : ∃ y, xs[4]? = some y := ⟨_, List.getElem?_eq_getElem (by rw [hxl]; decide)⟩
    rw [hy4] at e4
    obtain ⟨a4, ok4, _, p4⟩ := (dec_slice (e' := 80) cHunks_len (by omega) Tryz.underlying42 (by kernel_rfl) (dec_Hunk enc w spare held)) _ _ _ e4
    refine ⟨⟨a0, a1, a2, a3, a4⟩, ?_, rfl, fun j p hj => ?_⟩
    · exact ⟨ok0, ok1, ok2, ok3, ok4⟩
    · match j, hj with
      | 0, hj => obtain ⟨u, hu, hr⟩ := p0 0 p hj; exact ⟨u, hu, hr⟩
      | 1, hj => obtain ⟨u, hu, hr⟩ := p1 0 p hj; exact ⟨u, hu, hr⟩
      | 2, hj => obtain ⟨u, hu, hr⟩ := p2 0 p hj; exact ⟨u, hu, hr⟩
      | 3, hj => obtain ⟨u, hu, hr⟩ := p3 0 p hj; exact ⟨u, hu, hr⟩
      | 4, hj => obtain ⟨u, hu, hr⟩ := p4 0 p hj; exact ⟨u, hu, hr⟩
      | j + 5, hj => simp [cChanges] at hj
end Go.Proofs.YtmickenajhppoaaGreatDoor
