/- An argument of type []laws.File, read as plain data. Printed by wip/harness.py. -/
import Derived.Test.YtgcioajaglljfaaGreatDoorOpen
import Derived.Test.YtgcioajaglljfaaGreatDoorHFile
namespace Go.Proofs.YtgcioajaglljfaaGreatDoor
open Go.RowKit Go.WideShapes Go.ChangeShapes Go.Deep
set_option maxRecDepth 100000 in
theorem dec_File {H : Type} (enc : TypeId × Value → H) (w : World) (spare : Nat → Bool) (held : Bool) : Dec enc Tryz.prog w spare held 39 2 cFiles okFile := by
  intro fuel cs x h
  obtain ⟨xs, n, _, _, hcl, hxl, hf⟩ := DataW.trod_struct Tryz.underlying39 h
  have hC : Tryz.prog.cellsOf 39 = 2 := by kernel_rfl
  rw [hC] at hcl
  match cs, hcl with
  | [u0, u1], _ =>
    have e0 : DataW.trod enc Tryz.prog w 0 spare held n 9 (([u0, u1].drop 0).take (Tryz.prog.cellsOf 9)) = xs[0]? := hf 0 _ rfl
    rw [show Tryz.prog.cellsOf 9 = 1 by kernel_rfl] at e0
    obtain ⟨y0, hy0⟩ : ∃ y, xs[0]? = some y := ⟨_, List.getElem?_eq_getElem (by rw [hxl]; decide)⟩
    rw [hy0] at e0
    obtain ⟨a0, ok0, _, p0⟩ := (dec_str Tryz.underlying9) _ _ _ e0
    have e1 : DataW.trod enc Tryz.prog w 0 spare held n 37 (([u0, u1].drop 1).take (Tryz.prog.cellsOf 37)) = xs[1]? := hf 1 _ rfl
    rw [show Tryz.prog.cellsOf 37 = 1 by kernel_rfl] at e1
    obtain ⟨y1, hy1⟩ : ∃ y, xs[1]? = some y := ⟨_, List.getElem?_eq_getElem (by rw [hxl]; decide)⟩
    rw [hy1] at e1
    obtain ⟨a1, ok1, _, p1⟩ := (dec_slice (e' := 9) cText_len (by omega) Tryz.underlying37 (by kernel_rfl) (dec_str Tryz.underlying9)) _ _ _ e1
    refine ⟨⟨a0, a1⟩, ?_, rfl, fun j p hj => ?_⟩
    · exact ⟨ok0, ok1⟩
    · match j, hj with
      | 0, hj => obtain ⟨u, hu, hr⟩ := p0 0 p hj; exact ⟨u, hu, hr⟩
      | 1, hj => obtain ⟨u, hu, hr⟩ := p1 0 p hj; exact ⟨u, hu, hr⟩
      | j + 2, hj => simp [cFiles] at hj
end Go.Proofs.YtgcioajaglljfaaGreatDoor
