/- In plain words: a patch put into a text. -/
import Derived.Test.YthjjocimpkjldaaGrid
import Derived.Test.YthjjocimpkjldaaPatchOk2
import Derived.Test.YthjjocimpkjldaaPatchPlain
import Derived.Test.YthjjocimpkjldaaSame
namespace Go.Proofs.Ythjjocimpkjldaa
open Go.RowKit

def doFrom (t : List Str) : List PHunk → Nat → List Str → Option (List Str)
  | [], f, out => if textOk (out ++ t.drop f) then some (out ++ t.drop f) else none
  | h :: d, f, out => if t.length < h.at_.toNat + h.less.length then none else
      if (t.drop h.at_.toNat).take h.less.length = h.less then doFrom t d (h.at_.toNat + h.less.length) (out ++ (t.drop f).take (h.at_.toNat - f) ++ h.more) else none
def patchDo (t : List Str) (d : List PHunk) : Option (List Str) := if textOk t && patchOk d then doFrom t d 0 [] else none
theorem hunksOk_cons {h : PHunk} {d : List PHunk} (hk : hunksOk (h :: d) = true) : hunkOk h = true ∧ hunksOk d = true ∧ ∀ g, d.head? = some g → h.stop < g.at_ := by
  cases d with
  | nil => exact ⟨by simpa [hunksOk] using hk, rfl, fun g hg => by simp at hg⟩
  | cons g t =>
    simp only [hunksOk, Bool.and_eq_true, decide_eq_true_eq] at hk
    refine ⟨hk.1, hk.2.2, fun g' hg => ?_⟩
    simp at hg
    subst hg
    exact hk.2.1
theorem doFrom_ok {t : List Str} : ∀ {d : List PHunk} {f : Nat} {out r : List Str}, doFrom t d f out = some r → textOk r = true
  | [], f, out, r, h => by
    rw [doFrom] at h
    split at h
    · rename_i hk
      cases h; exact hk
    · cases h
  | x :: d, f, out, r, h => by
    rw [doFrom] at h
    split at h
    · cases h
    split at h
    · exact doFrom_ok h
    · cases h

end Go.Proofs.Ythjjocimpkjldaa
