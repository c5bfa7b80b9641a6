/- An argument of type []byte, read as plain bytes. -/
import Derived.Test.YthjjocimpkjldaaOpen
import Derived.Test.YthjjocimpkjldaaDraw
namespace Go.Proofs.Ythjjocimpkjldaa
open Go.RowKit Go.WideShapes Go.ChangeShapes Go.Deep

section
variable {H : Type} {enc : TypeId × Value → H} {P : Program} {w : World} {spare : Nat → Bool} {held : Bool}
theorem dec_u8 {t : TypeId} (ht : P.underlying t = some (.int .u8)) : Dec enc P w spare held t 1 (fun b : UInt8 => [PV.int .u8 b.toNat]) (fun _ => True) := by
  intro fuel cs x h
  obtain ⟨n, rfl, _, hn⟩ := DataW.trod_int ht h
  have e1 : IntKind.u8.min = 0 := by decide
  have e2 : IntKind.u8.max = 255 := by decide
  simp [Lit.wf, e1, e2] at hn
  refine ⟨UInt8.ofNat n.toNat, trivial, rfl, fun j p hj => ?_⟩
  cases j with
  | zero =>
    simp only [List.getElem?_cons_zero, Option.some.injEq] at hj
    subst hj
    have : ((UInt8.ofNat n.toNat).toNat : Int) = n := by rw [UInt8.toNat_ofNat']; omega
    rw [this]
    exact ⟨_, rfl, .int _ n⟩
  | succ j => simp at hj
theorem flat_bytes (bs : List UInt8) : (bs.flatMap fun b : UInt8 => [PV.int .u8 b.toNat]) = bs.map fun b => PV.int .u8 b.toNat := by
  induction bs with
  | nil => rfl
  | cons b bs ih => simp [ih]
theorem dec_bytes {t e : TypeId} (ht : P.underlying t = some (.slice e)) (he : P.underlying e = some (.int .u8)) (hC : P.cellsOf e = 1) : Dec enc P w spare held t 1 (fun bs : List UInt8 => [encBytes bs]) (fun _ => True) := by
  intro fuel cs x h
  obtain ⟨bs, _, h2, h3⟩ := dec_slice (e' := 0) (f := fun b : UInt8 => [PV.int .u8 b.toNat]) (z := 1) (fun _ => rfl) (by omega) ht hC (dec_u8 he) fuel cs x h
  refine ⟨bs, trivial, h2, fun j p hj => ?_⟩
  simp only [flat_bytes] at h3
  exact h3 j p hj
end
end Go.Proofs.Ythjjocimpkjldaa
