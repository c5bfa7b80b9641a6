/- Two results that own their blocks, the first of them changed in place. Any program. -/
import Derived.Test.YtgcioajaglljfaaGreatDoorZ12
import Derived.Test.YtgcioajaglljfaaGreatDoorZ08
namespace Go.Proofs.YtgcioajaglljfaaGreatDoor
open Go.RowKit
theorem FreshL.markFst {P : Program} {f : FuncId} {args : Array Value} {w : World} {lo hi : Nat} {p q p' : PV} {u v r : Value} (h : FreshL w lo hi [p, q] [u, v])
    (hc : ∀ F, Own w p u F → F.Nodup → Calls P f args w fun e w' => e = .returned r ∧ Own w' p' u F ∧ Only F w w') :
    Calls P f args w fun e w' => e = .returned r ∧ FreshL w' lo hi [p', q] [u, v] ∧ ∃ F, (∀ k ∈ F, lo ≤ k ∧ k < hi) ∧ Only F w w' := by
  obtain ⟨F, ⟨_, _, F1, F2, hu, hF, h1, h2⟩, hn, hb⟩ := h
  obtain ⟨rfl, rfl⟩ := List.cons.inj hu
  subst hF
  obtain ⟨n1, n2, n3⟩ := List.nodup_append.1 hn
  refine (hc F1 h1 n1).mono ?_
  rintro e w' ⟨he, ho, hon⟩
  refine ⟨he, ⟨F1 ++ F2, ⟨_, _, F1, F2, rfl, rfl, ho, Owns.same _ _ _ h2 (fun k hk => hon.block k (Owns.lt _ _ _ h2 k hk) (fun hm => n3 k hm k hk rfl))⟩, hn, hb⟩, F1, fun k hk => hb k (List.mem_append_left _ hk), hon⟩
end Go.Proofs.YtgcioajaglljfaaGreatDoor
