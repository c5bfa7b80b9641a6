/- Plain: a patch as lines. -/
import Derived.Test.YteofafgleojmhaaDoorPatchPlain
import Derived.Lib.ItoaNum
namespace Go.Proofs.YteofafgleojmhaaDoor
open Go.RowKit

def wLine (c : UInt8) (l : Str) : Str := [c] ++ l ++ [10]
def wLines (c : UInt8) (ls : List Str) : Str := ls.flatMap (wLine c)
def wHead (h : PHunk) : Str := [64] ++ Lib.decDigits h.at_.toNat ++ [10]
def wHunk (h : PHunk) : Str := wHead h ++ wLines 45 h.less ++ wLines 43 h.more
def wPatch (d : List PHunk) : Str := d.flatMap wHunk
def patchPut (d : List PHunk) : Str := if patchOk d then wPatch d else []

theorem decDigits_lt {n : Nat} (h : n < 10) : Lib.decDigits n = [UInt8.ofNat (48 + n)] := by rw [Lib.decDigits, dif_pos h]
theorem decDigits_ge {n : Nat} (h : ¬ n < 10) : Lib.decDigits n = Lib.decDigits (n / 10) ++ [UInt8.ofNat (48 + n % 10)] := by rw [Lib.decDigits, dif_neg h]
theorem decDigits_len {n : Nat} (h : n < 100) : (Lib.decDigits n).length ≤ 2 := by
  by_cases h1 : n < 10
  · rw [decDigits_lt h1]; simp
  · rw [decDigits_ge h1, decDigits_lt (by omega)]; simp
theorem lines_small {t : List Str} (h : textOk t = true) : ∀ s ∈ t, s.length ≤ 12 := fun s hs => by
  unfold textOk lineOk at h
  simp only [Bool.and_eq_true, decide_eq_true_eq, List.all_eq_true] at h
  exact (h.2 s hs).1
theorem wLines_len {c : UInt8} : ∀ {ls : List Str}, (∀ s ∈ ls, s.length ≤ 12) → (wLines c ls).length ≤ 14 * ls.length
  | [], _ => by simp [wLines]
  | s :: ls, h => by
    have h1 := h s List.mem_cons_self
    have h2 := wLines_len (c := c) (ls := ls) (fun x hx => h x (List.mem_cons_of_mem _ hx))
    unfold wLines at h2 ⊢
    simp only [List.flatMap_cons, List.length_append, List.length_cons, wLine, List.length_nil]
    omega
theorem wHead_len {h : PHunk} (hk : hunkOk h = true) : (wHead h).length ≤ 4 := by
  obtain ⟨h1, h2, _⟩ := hunkOk_facts hk
  have := decDigits_len (n := h.at_.toNat) (by omega)
  unfold wHead
  simp
  omega
theorem wHunk_len {h : PHunk} (hk : hunkOk h = true) : (wHunk h).length ≤ 284 := by
  obtain ⟨h1, h2, h3, h4, h5, h6, _⟩ := hunkOk_facts hk
  have a1 := wHead_len hk
  have a2 := wLines_len (c := 45) (lines_small h3)
  have a3 := wLines_len (c := 43) (lines_small h4)
  unfold wHunk
  simp only [List.length_append]
  omega
theorem wPatch_len {d : List PHunk} (h : ∀ x ∈ d, hunkOk x = true) : (wPatch d).length ≤ 284 * d.length := by
  induction d with
  | nil => simp [wPatch]
  | cons x d ih =>
    have h1 := wHunk_len (h x List.mem_cons_self)
    have h2 := ih (fun y hy => h y (List.mem_cons_of_mem _ hy))
    unfold wPatch at h2 ⊢
    simp only [List.flatMap_cons, List.length_append, List.length_cons]
    omega
theorem wPatch_take {d : List PHunk} (h : patchOk d = true) (k : Nat) : (wPatch (d.take k)).length ≤ 2272 := by
  have h1 := wPatch_len (d := d.take k) (fun x hx => hunkOk_of_patchOk h x (List.mem_of_mem_take hx))
  have h2 := patchOk_len h
  have h3 : (d.take k).length ≤ 8 := by simp; omega
  omega
theorem wPatch_next {d : List PHunk} {k : Nat} {x : PHunk} (hx : d[k]? = some x) : wPatch (d.take (k + 1)) = wPatch (d.take k) ++ wHunk x := by
  unfold wPatch
  rw [List.take_add_one, hx, List.flatMap_append]
  simp
theorem wLines_next {c : UInt8} {ls : List Str} {k : Nat} {s : Str} (hs : ls[k]? = some s) : wLines c (ls.take (k + 1)) = wLines c (ls.take k) ++ wLine c s := by
  unfold wLines
  rw [List.take_add_one, hs, List.flatMap_append]
  simp
theorem wLines_take_len {c : UInt8} {ls : List Str} (h : textOk ls = true) (k : Nat) : (wLines c (ls.take k)).length ≤ 140 := by
  have h1 := wLines_len (c := c) (ls := ls.take k) (fun s hs => lines_small h s (List.mem_of_mem_take hs))
  have h2 := textOk_len h
  have h3 : (ls.take k).length ≤ 10 := by simp; omega
  omega
end Go.Proofs.YteofafgleojmhaaDoor
