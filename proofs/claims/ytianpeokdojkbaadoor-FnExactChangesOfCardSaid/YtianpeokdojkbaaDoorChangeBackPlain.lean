import Derived.Test.YtianpeokdojkbaaDoorChangePlain
import Derived.Test.YtianpeokdojkbaaDoorBack
import Derived.Test.YtianpeokdojkbaaDoorZ27
/- Plain: changes taken back. -/
namespace Go.Proofs.YtianpeokdojkbaaDoor
open Go.RowKit

/-- A change taken back. -/
def backC (c : PChange) : PChange :=
  if c.kind = 1 then ⟨2, c.path, [], c.text, []⟩
  else if c.kind = 2 then ⟨1, c.path, [], c.text, []⟩
  else if c.kind = 3 then ⟨3, c.path, [], [], backFrom c.patch 0⟩
  else ⟨c.kind, c.dest, c.path, [], []⟩
def changesBack (l : List PChange) : List PChange := if changesOk l then l.map backC else []
theorem cntHunks_backC : ∀ (d : List PHunk) (s : Int), cntHunks (backFrom d s) = cntHunks d
  | [], _ => rfl
  | x :: d, s => by
    have := cntHunks_backC d (s + ((x.more.length : Int) - (x.less.length : Int)))
    simp only [backFrom, cntHunks, List.map_cons, List.sum_cons, cntHunk] at *
    omega
theorem cntHunks_okC {d : List PHunk} (h : ∀ x ∈ d, hunkOk x = true) : cntHunks d ≤ d.length * 21 := by
  induction d with
  | nil => simp [cntHunks]
  | cons x d ih =>
    have h1 := ih fun y hy => h y (by simp [hy])
    obtain ⟨_, _, _, _, h2, h3, _⟩ := hunkOk_facts (h x (by simp))
    simp only [cntHunks, List.map_cons, List.sum_cons, List.length_cons, cntHunk] at *
    omega
theorem textOk_len10 {t : List Str} (h : textOk t = true) : t.length ≤ 10 := by
  unfold textOk at h
  simp only [Bool.and_eq_true, decide_eq_true_eq] at h
  exact h.1
theorem cnt_backC {c : PChange} (h : changeOk c = true) : cntChange (backC c) ≤ 200 := by
  unfold changeOk at h
  rw [Bool.and_eq_true] at h
  have h2 := h.2
  unfold backC
  by_cases k1 : c.kind = 1
  · rw [if_pos (by omega)] at h2
    simp only [Bool.and_eq_true] at h2
    have := textOk_len10 h2.1
    rw [if_pos k1]
    simp [cntChange, cntHunks]
    omega
  · by_cases k2 : c.kind = 2
    · rw [if_pos (by omega)] at h2
      simp only [Bool.and_eq_true] at h2
      have := textOk_len10 h2.1
      rw [if_neg k1, if_pos k2]
      simp [cntChange, cntHunks]
      omega
    · by_cases k3 : c.kind = 3
      · rw [if_neg (by omega), if_pos k3] at h2
        simp only [Bool.and_eq_true, decide_eq_true_eq] at h2
        have h8 := cntHunks_okC (hunkOk_of_patchOk h2.2.2.2)
        have h9 := patchOk_len h2.2.2.2
        rw [if_neg k1, if_neg k2, if_pos k3]
        simp only [cntChange, cntHunks_backC, List.length_nil]
        omega
      · rw [if_neg k1, if_neg k2, if_neg k3]
        simp [cntChange, cntHunks]
theorem bnd_ChangesBack (xs : List PChange) : cntChanges (changesBack xs) ≤ 3200 := by
  unfold changesBack
  split
  · rename_i h
    unfold changesOk at h
    simp only [Bool.and_eq_true, decide_eq_true_eq, List.all_eq_true] at h
    have hall : ∀ l : List PChange, (∀ c ∈ l, changeOk c = true) → cntChanges (l.map backC) ≤ 200 * l.length := by
      intro l
      induction l with
      | nil => intro _; simp [cntChanges]
      | cons c l ih =>
        intro hl
        have h1 := ih fun y hy => hl y (by simp [hy])
        have h2 := cnt_backC (hl c (by simp))
        simp only [cntChanges, List.map_cons, List.sum_cons, List.length_cons] at *
        omega
    have := hall xs h.2.1
    omega
  · simp [cntChanges]
theorem backC_next {xs : List PChange} {k : Nat} {x : PChange} (h : xs[k]? = some x) : (xs.take (k + 1)).map backC = (xs.take k).map backC ++ [backC x] := by
  rw [List.take_add_one, h, List.map_append]
  rfl
end Go.Proofs.YtianpeokdojkbaaDoor
