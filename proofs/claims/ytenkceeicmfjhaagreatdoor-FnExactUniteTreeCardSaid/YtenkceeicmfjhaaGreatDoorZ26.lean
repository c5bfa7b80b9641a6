/- Several of my texts in one: DFile, DCommit, DHead, DRepo. -/
import Derived.Test.YtenkceeicmfjhaaGreatDoorOpen
import Derived.Test.YtenkceeicmfjhaaGreatDoorHFile
import Derived.Test.YtenkceeicmfjhaaGreatDoorHCommit
import Derived.Test.YtenkceeicmfjhaaGreatDoorHHead
import Derived.Test.YtenkceeicmfjhaaGreatDoorHRepo
/- An argument of type []laws.File, read as plain data. Printed by wip/harness.py. -/
namespace Go.Proofs.YtenkceeicmfjhaaGreatDoor
open Go.RowKit Go.WideShapes Go.ChangeShapes Go.Deep
set_option maxRecDepth 100000 in
theorem dec_File {H : Type} (enc : TypeId × Value → H) (w : World) (spare : Nat → Bool) (held : Bool) : Dec enc Tryz.prog w spare held 114 2 cFiles okFile := by
  intro fuel cs x h
  obtain ⟨xs, n, _, _, hcl, hxl, hf⟩ := DataW.trod_struct Tryz.underlying114 h
  have hC : Tryz.prog.cellsOf 114 = 2 := by kernel_rfl
  rw [hC] at hcl
  match cs, hcl with
  | [u0, u1], _ =>
    have e0 : DataW.trod enc Tryz.prog w 0 spare held n 9 (([u0, u1].drop 0).take (Tryz.prog.cellsOf 9)) = xs[0]? := hf 0 _ rfl
    rw [show Tryz.prog.cellsOf 9 = 1 by kernel_rfl] at e0
    obtain ⟨y0, hy0⟩ : ∃ y, xs[0]? = some y := ⟨_, List.getElem?_eq_getElem (by rw [hxl]; decide)⟩
    rw [hy0] at e0
    obtain ⟨a0, ok0, _, p0⟩ := (dec_str Tryz.underlying9) _ _ _ e0
    have e1 : DataW.trod enc Tryz.prog w 0 spare held n 59 (([u0, u1].drop 1).take (Tryz.prog.cellsOf 59)) = xs[1]? := hf 1 _ rfl
    rw [show Tryz.prog.cellsOf 59 = 1 by kernel_rfl] at e1
    obtain ⟨y1, hy1⟩ : ∃ y, xs[1]? = some y := ⟨_, List.getElem?_eq_getElem (by rw [hxl]; decide)⟩
    rw [hy1] at e1
    obtain ⟨a1, ok1, _, p1⟩ := (dec_slice (e' := 9) cText_len (by omega) Tryz.underlying59 (by kernel_rfl) (dec_str Tryz.underlying9)) _ _ _ e1
    refine ⟨⟨a0, a1⟩, ?_, rfl, fun j p hj => ?_⟩
    · exact ⟨ok0, ok1⟩
    · match j, hj with
      | 0, hj => obtain ⟨u, hu, hr⟩ := p0 0 p hj; exact ⟨u, hu, hr⟩
      | 1, hj => obtain ⟨u, hu, hr⟩ := p1 0 p hj; exact ⟨u, hu, hr⟩
      | j + 2, hj => simp [cFiles] at hj
end Go.Proofs.YtenkceeicmfjhaaGreatDoor

/- An argument of type []laws.Commit, read as plain data. Printed by wip/harness.py. -/
namespace Go.Proofs.YtenkceeicmfjhaaGreatDoor
open Go.RowKit Go.WideShapes Go.ChangeShapes Go.Deep
set_option maxRecDepth 100000 in
theorem dec_Commit {H : Type} (enc : TypeId × Value → H) (w : World) (spare : Nat → Bool) (held : Bool) : Dec enc Tryz.prog w spare held 71 3 cCommits okCommit := by
  intro fuel cs x h
  obtain ⟨xs, n, _, _, hcl, hxl, hf⟩ := DataW.trod_struct Tryz.underlying71 h
  have hC : Tryz.prog.cellsOf 71 = 3 := by kernel_rfl
  rw [hC] at hcl
  match cs, hcl with
  | [u0, u1, u2], _ =>
    have e0 : DataW.trod enc Tryz.prog w 0 spare held n 48 (([u0, u1, u2].drop 0).take (Tryz.prog.cellsOf 48)) = xs[0]? := hf 0 _ rfl
    rw [show Tryz.prog.cellsOf 48 = 1 by kernel_rfl] at e0
    obtain ⟨y0, hy0⟩ : ∃ y, xs[0]? = some y := ⟨_, List.getElem?_eq_getElem (by rw [hxl]; decide)⟩
    rw [hy0] at e0
    obtain ⟨a0, ok0, _, p0⟩ := (dec_slice (e' := 3) cInts_len (by omega) Tryz.underlying48 (by kernel_rfl) (dec_int Tryz.underlying3)) _ _ _ e0
    have e1 : DataW.trod enc Tryz.prog w 0 spare held n 9 (([u0, u1, u2].drop 1).take (Tryz.prog.cellsOf 9)) = xs[1]? := hf 1 _ rfl
    rw [show Tryz.prog.cellsOf 9 = 1 by kernel_rfl] at e1
    obtain ⟨y1, hy1⟩ : ∃ y, xs[1]? = some y := ⟨_, List.getElem?_eq_getElem (by rw [hxl]; decide)⟩
    rw [hy1] at e1
    obtain ⟨a1, ok1, _, p1⟩ := (dec_str Tryz.underlying9) _ _ _ e1
    have e2 : DataW.trod enc Tryz.prog w 0 spare held n 69 (([u0, u1, u2].drop 2).take (Tryz.prog.cellsOf 69)) = xs[2]? := hf 2 _ rfl
    rw [show Tryz.prog.cellsOf 69 = 1 by kernel_rfl] at e2
    obtain ⟨y2, hy2⟩ : ∃ y, xs[2]? = some y := ⟨_, List.getElem?_eq_getElem (by rw [hxl]; decide)⟩
    rw [hy2] at e2
    obtain ⟨a2, ok2, _, p2⟩ := (dec_slice (e' := 61) cFiles_len (by omega) Tryz.underlying69 (by kernel_rfl) (dec_File enc w spare held)) _ _ _ e2
    refine ⟨⟨a0, a1, a2⟩, ?_, rfl, fun j p hj => ?_⟩
    · exact ⟨ok0, ok1, ok2⟩
    · match j, hj with
      | 0, hj => obtain ⟨u, hu, hr⟩ := p0 0 p hj; exact ⟨u, hu, hr⟩
      | 1, hj => obtain ⟨u, hu, hr⟩ := p1 0 p hj; exact ⟨u, hu, hr⟩
      | 2, hj => obtain ⟨u, hu, hr⟩ := p2 0 p hj; exact ⟨u, hu, hr⟩
      | j + 3, hj => simp [cCommits] at hj
end Go.Proofs.YtenkceeicmfjhaaGreatDoor

/- An argument of type []laws.Head, read as plain data. Printed by wip/harness.py. -/
namespace Go.Proofs.YtenkceeicmfjhaaGreatDoor
open Go.RowKit Go.WideShapes Go.ChangeShapes Go.Deep
set_option maxRecDepth 100000 in
theorem dec_Head {H : Type} (enc : TypeId × Value → H) (w : World) (spare : Nat → Bool) (held : Bool) : Dec enc Tryz.prog w spare held 74 2 cHeads okHead := by
  intro fuel cs x h
  obtain ⟨xs, n, _, _, hcl, hxl, hf⟩ := DataW.trod_struct Tryz.underlying74 h
  have hC : Tryz.prog.cellsOf 74 = 2 := by kernel_rfl
  rw [hC] at hcl
  match cs, hcl with
  | [u0, u1], _ =>
    have e0 : DataW.trod enc Tryz.prog w 0 spare held n 9 (([u0, u1].drop 0).take (Tryz.prog.cellsOf 9)) = xs[0]? := hf 0 _ rfl
    rw [show Tryz.prog.cellsOf 9 = 1 by kernel_rfl] at e0
    obtain ⟨y0, hy0⟩ : ∃ y, xs[0]? = some y := ⟨_, List.getElem?_eq_getElem (by rw [hxl]; decide)⟩
    rw [hy0] at e0
    obtain ⟨a0, ok0, _, p0⟩ := (dec_str Tryz.underlying9) _ _ _ e0
    have e1 : DataW.trod enc Tryz.prog w 0 spare held n 3 (([u0, u1].drop 1).take (Tryz.prog.cellsOf 3)) = xs[1]? := hf 1 _ rfl
    rw [show Tryz.prog.cellsOf 3 = 1 by kernel_rfl] at e1
    obtain ⟨y1, hy1⟩ : ∃ y, xs[1]? = some y := ⟨_, List.getElem?_eq_getElem (by rw [hxl]; decide)⟩
    rw [hy1] at e1
    obtain ⟨a1, ok1, _, p1⟩ := (dec_int Tryz.underlying3) _ _ _ e1
    refine ⟨⟨a0, a1⟩, ?_, rfl, fun j p hj => ?_⟩
    · exact ⟨ok0, ok1⟩
    · match j, hj with
      | 0, hj => obtain ⟨u, hu, hr⟩ := p0 0 p hj; exact ⟨u, hu, hr⟩
      | 1, hj => obtain ⟨u, hu, hr⟩ := p1 0 p hj; exact ⟨u, hu, hr⟩
      | j + 2, hj => simp [cHeads] at hj
end Go.Proofs.YtenkceeicmfjhaaGreatDoor

/- An argument of type []laws.Repo, read as plain data. Printed by wip/harness.py. -/
namespace Go.Proofs.YtenkceeicmfjhaaGreatDoor
open Go.RowKit Go.WideShapes Go.ChangeShapes Go.Deep
set_option maxRecDepth 100000 in
theorem dec_Repo {H : Type} (enc : TypeId × Value → H) (w : World) (spare : Nat → Bool) (held : Bool) : Dec enc Tryz.prog w spare held 25 2 cRepos okRepo := by
  intro fuel cs x h
  obtain ⟨xs, n, _, _, hcl, hxl, hf⟩ := DataW.trod_struct Tryz.underlying25 h
  have hC : Tryz.prog.cellsOf 25 = 2 := by kernel_rfl
  rw [hC] at hcl
  match cs, hcl with
  | [u0, u1], _ =>
    have e0 : DataW.trod enc Tryz.prog w 0 spare held n 22 (([u0, u1].drop 0).take (Tryz.prog.cellsOf 22)) = xs[0]? := hf 0 _ rfl
    rw [show Tryz.prog.cellsOf 22 = 1 by kernel_rfl] at e0
    obtain ⟨y0, hy0⟩ : ∃ y, xs[0]? = some y := ⟨_, List.getElem?_eq_getElem (by rw [hxl]; decide)⟩
    rw [hy0] at e0
    obtain ⟨a0, ok0, _, p0⟩ := (dec_slice (e' := 50) cCommits_len (by omega) Tryz.underlying22 (by kernel_rfl) (dec_Commit enc w spare held)) _ _ _ e0
    have e1 : DataW.trod enc Tryz.prog w 0 spare held n 23 (([u0, u1].drop 1).take (Tryz.prog.cellsOf 23)) = xs[1]? := hf 1 _ rfl
    rw [show Tryz.prog.cellsOf 23 = 1 by kernel_rfl] at e1
    obtain ⟨y1, hy1⟩ : ∃ y, xs[1]? = some y := ⟨_, List.getElem?_eq_getElem (by rw [hxl]; decide)⟩
    rw [hy1] at e1
    obtain ⟨a1, ok1, _, p1⟩ := (dec_slice (e' := 77) cHeads_len (by omega) Tryz.underlying23 (by kernel_rfl) (dec_Head enc w spare held)) _ _ _ e1
    refine ⟨⟨a0, a1⟩, ?_, rfl, fun j p hj => ?_⟩
    · exact ⟨ok0, ok1⟩
    · match j, hj with
      | 0, hj => obtain ⟨u, hu, hr⟩ := p0 0 p hj; exact ⟨u, hu, hr⟩
      | 1, hj => obtain ⟨u, hu, hr⟩ := p1 0 p hj; exact ⟨u, hu, hr⟩
      | j + 2, hj => simp [cRepos] at hj
end Go.Proofs.YtenkceeicmfjhaaGreatDoor
