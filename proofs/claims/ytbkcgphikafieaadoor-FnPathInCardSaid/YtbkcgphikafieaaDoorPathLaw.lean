/- In plain words: what the law on paths says. -/
import Derived.Test.YtbkcgphikafieaaDoorPathPlain
namespace Go.Proofs.YtbkcgphikafieaaDoor
open Go.RowKit
theorem below_self (a : Str) : below a a = false := by
  rw [below_iff]; simp
theorem below_len {a b : Str} (h : below a b = true) : a.length < b.length ∧ b.take a.length = a := by
  rw [below_iff] at h
  simp only [Bool.and_eq_true, decide_eq_true_eq] at h
  exact h.1
theorem below_back {a b : Str} (h : below a b = true) : below b a = false := by
  have := (below_len h).1
  rw [below_iff]
  simp; omega
theorem below_trans {a b c : Str} (h1 : below a b = true) (h2 : below b c = true) : below a c = true := by
  unfold below at *
  rw [List.isPrefixOf_iff_prefix] at *
  exact h1.trans ((List.prefix_append b [47]).trans h2)
theorem cutN_empty_last (c : UInt8) : ∀ (n : Nat) (s : Str), s.count c = n → [] ∈ cutN c (n + 1) (s ++ [c])
  | 0, s, h => by
    have h0 : c ∉ s := List.count_eq_zero.1 h
    rw [cutN_hit h0]
    simp [cutN_zero]
  | n + 1, s, h => by
    rcases index_one c s with ⟨_, h1⟩ | ⟨p, q, rfl, h1, _⟩
    · rw [List.count_eq_zero.2 h1] at h; omega
    · have hc : (p ++ c :: q).count c = q.count c + 1 := by
        rw [List.count_append, List.count_cons_self, List.count_eq_zero.2 h1]; omega
      rw [hc] at h
      rw [List.append_assoc, List.cons_append, cutN_hit h1]
      exact List.mem_cons_of_mem _ (cutN_empty_last c n q (by omega))
theorem pathOk_no_stroke {a : Str} : pathOk (a ++ [47]) = false := by
  rw [pathOk_full]
  have h := cutN_empty_last 47 (a.count 47) a rfl
  have hc : (a ++ [47]).count 47 = a.count 47 + 1 := by simp [List.count_append]
  rw [hc]
  cases hall : (cutN 47 (a.count 47 + 1) (a ++ [47])).all nameOk with
  | false => simp
  | true =>
    rw [List.all_eq_true] at hall
    have := hall [] h
    simp [nameOk] at this
theorem below_longer {a b : Str} (h : below a b = true) (hb : pathOk b = true) : a.length + 1 < b.length := by
  have h1 := (below_len h).1
  by_cases he : b.length = a.length + 1
  · unfold below at h
    rw [List.isPrefixOf_iff_prefix] at h
    have e := h.eq_of_length (by simp; omega)
    rw [← e, pathOk_no_stroke] at hb
    cases hb
  · omega
end Go.Proofs.YtbkcgphikafieaaDoor
