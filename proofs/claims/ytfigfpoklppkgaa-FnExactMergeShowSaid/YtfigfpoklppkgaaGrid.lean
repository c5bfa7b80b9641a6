/- A slice of rows of integers that the call itself made (a table): what it holds, one store, how it reads. And the lengths of longest common subsequences, in plain words. -/
import Derived.Test.YtfigfpoklppkgaaData
namespace Go.Proofs.Ytfigfpoklppkgaa
open Go.RowKit

/-- The length of a longest common subsequence. -/
def lcsLen : List Str → List Str → Nat
  | [], _ => 0
  | _ :: _, [] => 0
  | x :: xs, y :: ys => if x = y then lcsLen xs ys + 1 else max (lcsLen xs (y :: ys)) (lcsLen (x :: xs) ys)
termination_by xs ys => xs.length + ys.length
/-- Entry i, j of the table of two texts. -/
def lcsAt (a b : List Str) (i j : Nat) : Int := (lcsLen (a.drop i) (b.drop j) : Nat)
theorem lcsLen_nil_right : ∀ a : List Str, lcsLen a [] = 0
  | [] => by simp [lcsLen]
  | _ :: _ => by simp [lcsLen]
theorem lcsAt_end_left {a b : List Str} {i j : Nat} (h : a.length ≤ i) : lcsAt a b i j = 0 := by
  unfold lcsAt; rw [List.drop_of_length_le h]; simp [lcsLen]
theorem lcsAt_end_right {a b : List Str} {i j : Nat} (h : b.length ≤ j) : lcsAt a b i j = 0 := by
  unfold lcsAt; rw [List.drop_of_length_le h, lcsLen_nil_right]; rfl
theorem drop_cons {α : Type} {l : List α} {i : Nat} {x : α} (h : l[i]? = some x) : l.drop i = x :: l.drop (i + 1) := by
  obtain ⟨hi, rfl⟩ := List.getElem?_eq_some_iff.1 h
  exact List.drop_eq_getElem_cons hi
theorem lcsAt_same {a b : List Str} {i j : Nat} {x y : Str} (hx : a[i]? = some x) (hy : b[j]? = some y) (h : x = y) : lcsAt a b i j = lcsAt a b (i + 1) (j + 1) + 1 := by
  subst h
  unfold lcsAt; rw [drop_cons hx, drop_cons hy, lcsLen]; simp
theorem lcsAt_other {a b : List Str} {i j : Nat} {x y : Str} (hx : a[i]? = some x) (hy : b[j]? = some y) (h : x ≠ y) : lcsAt a b i j = max (lcsAt a b (i + 1) j) (lcsAt a b i (j + 1)) := by
  unfold lcsAt; rw [drop_cons hx, drop_cons hy, lcsLen, if_neg h]; omega
theorem lcsAt_other' {a b : List Str} {i j : Nat} {x y : Str} (hx : a[i]? = some x) (hy : b[j]? = some y) (h : x ≠ y) : lcsAt a b i j = if lcsAt a b (i + 1) j < lcsAt a b i (j + 1) then lcsAt a b i (j + 1) else lcsAt a b (i + 1) j := by
  rw [lcsAt_other hx hy h]; split <;> omega
theorem lcsLen_le_left : ∀ a b : List Str, lcsLen a b ≤ a.length
  | [], _ => by simp [lcsLen]
  | _ :: _, [] => by simp [lcsLen]
  | x :: xs, y :: ys => by
    have h1 := lcsLen_le_left xs ys
    have h2 := lcsLen_le_left xs (y :: ys)
    have h3 := lcsLen_le_left (x :: xs) ys
    rw [lcsLen]
    simp only [List.length_cons] at *
    split <;> omega
termination_by xs ys => xs.length + ys.length
theorem lcsAt_bound (a b : List Str) (i j : Nat) : 0 ≤ lcsAt a b i j ∧ lcsAt a b i j ≤ a.length := by
  unfold lcsAt
  have h := lcsLen_le_left (a.drop i) (b.drop j)
  rw [List.length_drop] at h
  omega

/-- Row i of a table, as cells. -/
def rowCells (f : Nat → Nat → Int) (m i : Nat) : List Value := (List.range m).map fun j => .int .i64 (f i j)
theorem rowCells_at {f : Nat → Nat → Int} {m i j : Nat} (h : j < m) : (rowCells f m i)[j]? = some (.int .i64 (f i j)) := by simp [rowCells, h]

/-- The table: v holds the rows; each row in a block of its own. -/
structure Grid (w : World) (base : Nat) (v : Value) (G : List Nat) (m : Nat) (f : Nat → Nat → Int) : Prop where
  top : w.ownsRow base 36 1 v G.length (G.map fun g => .slice (some ⟨g, 0, none⟩) m m)
  nodup : G.Nodup
  row : ∀ i g, G[i]? = some g → w.ownsRow base 3 1 (.slice (some ⟨g, 0, none⟩) m m) m (rowCells f m i)

section
variable {w w' : World} {base m n cap gv : Nat} {v : Value} {G : List Nat} {f : Nat → Nat → Int}
theorem own_ne {e e' z z' n n' : Nat} {v v' : Value} {us us' : List Value} {g : Nat} (h : w.ownsRow base e z v n us) (h' : w.ownsRow base e' z' v' n' us') (hne : e ≠ e') (hg : v.ownBlock = some g) : v'.ownBlock ≠ some g := by
  intro hg'
  rcases h.2 with ⟨rfl, _⟩ | ⟨a, c, cur, rfl, _, hh, _⟩
  · simp [Value.ownBlock] at hg
  rcases h'.2 with ⟨rfl, _⟩ | ⟨a', c', cur', rfl, _, hh', _⟩
  · simp [Value.ownBlock] at hg'
  simp [Value.ownBlock] at hg hg'
  subst hg hg'
  rw [hh] at hh'
  simp only [Option.some.injEq, Obj.cells.injEq] at hh'
  exact hne hh'.2.1
theorem Grid.cellTop (h : Grid w base (.slice (some ⟨gv, 0, none⟩) n cap) G m f) {i g : Nat} (hg : G[i]? = some g) : w.cell? ⟨gv, i, none⟩ = some (.slice (some ⟨g, 0, none⟩) m m) := by
  have hlt := (List.getElem?_eq_some_iff.1 hg).1
  have := h.top.cells (g := gv) rfl i (.slice (some ⟨g, 0, none⟩) m m) (by simp [hg])
  simpa [Addr.add_lit] using this
theorem Grid.cell (h : Grid w base v G m f) {i j g : Nat} (hg : G[i]? = some g) (hj : j < m) : w.cell? ⟨g, j, none⟩ = some (.int .i64 (f i j)) := by
  have := (h.row i g hg).cells (g := g) rfl j _ (rowCells_at hj)
  simpa [Addr.add_lit] using this
theorem Grid.frozen (h : Grid w base v G m f) {i j g : Nat} (hg : G[i]? = some g) : w.frozen? ⟨g, j, none⟩ = false := (h.row i g hg).frozenAt j
theorem Grid.lt (h : Grid w base v G m f) {i g : Nat} (hg : G[i]? = some g) : base ≤ g ∧ g < w.heap.size := (h.row i g hg).lt g rfl
theorem ownsRow_far {e z n : Nat} {v : Value} {us : List Value} (h : w.ownsRow base e z v n us) {a : Addr} (hne : v.ownBlock ≠ some a.block) (u : Value) : (w.setCell a u).ownsRow base e z v n us := by
  refine ⟨h.1, ?_⟩
  rcases h.2 with h2 | ⟨g, cap, cur, rfl, hg, hh, r⟩
  · exact .inl h2
  · refine .inr ⟨g, cap, cur, rfl, hg, ?_, r⟩
    rw [Below.heap_setCell _ _ _ _ (fun e => hne (by simp [Value.ownBlock, e]))]
    exact hh
theorem Grid.set (h : Grid w base v G m f) {i j g : Nat} (hg : G[i]? = some g) (x : Int) :
    Grid (w.setCell ⟨g, j, none⟩ (.int .i64 x)) base v G m (fun i' j' => if i' = i ∧ j' = j then x else f i' j') := by
  refine ⟨ownsRow_far (a := ⟨g, j, none⟩) h.top (own_ne (h.row i g hg) h.top (by decide) rfl) _, h.nodup, fun i' g' hg' => ?_⟩
  by_cases hi : i' = i
  · subst hi
    rw [hg] at hg'
    obtain rfl := Option.some.inj hg'
    have hs := ((h.row i' g hg).stored j (.int .i64 x)).1
    have e1 : (rowCells f m i').set j (.int .i64 x) = rowCells (fun i' j' => if i' = i' ∧ j' = j then x else f i' j') m i' := by
      apply List.ext_getElem?
      intro k
      by_cases hk : k < m
      · rw [rowCells_at hk]
        by_cases hkj : k = j
        · subst hkj; rw [List.getElem?_set_self (by simpa [rowCells] using hk)]; simp
        · rw [List.getElem?_set_ne (by omega), rowCells_at hk]; simp [hkj]
      · rw [List.getElem?_eq_none (by simp [rowCells]; omega), List.getElem?_eq_none (by simp [rowCells]; omega)]
    rw [e1] at hs
    have e2 : rowCells (fun i'' j' => if i'' = i' ∧ j' = j then x else f i'' j') m i' = rowCells (fun i' j' => if i' = i' ∧ j' = j then x else f i' j') m i' := by
      simp [rowCells]
    rw [e2]; exact hs
  · have hne : g' ≠ g := by
      intro e
      subst e
      have h1 := List.getElem?_eq_some_iff.1 hg
      have h2 := List.getElem?_eq_some_iff.1 hg'
      exact hi ((List.getElem_inj h.nodup).1 (h2.2.trans h1.2.symm))
    have hr := ownsRow_far (h.row i' g' hg') (a := ⟨g, j, none⟩) (by simp [Value.ownBlock, hne]) (.int .i64 x)
    have e2 : rowCells (fun i'' j' => if i'' = i ∧ j' = j then x else f i'' j') m i' = rowCells f m i' := by
      simp [rowCells, hi]
    rw [e2]; exact hr
theorem Grid.keep (h : Grid w base v G m f) (hb : ∀ k, base ≤ k → k < w.heap.size → w'.heap[k]? = w.heap[k]?) : Grid w' base v G m f := by
  refine ⟨ownsRow_same h.top (fun k hk => ?_), h.nodup, fun i g hg => ownsRow_same (h.row i g hg) (fun k hk => ?_)⟩
  · have := h.top.lt k (by simpa using hk); exact hb k this.1 this.2
  · have := (h.row i g hg).lt k (by simpa using hk); exact hb k this.1 this.2
theorem Grid.drewN (h : Grid w base v G m f) (k : Nat) : Grid (w.drewN k) base v G m f := h.keep fun _ _ _ => rfl
theorem Grid.congr {f' : Nat → Nat → Int} (h : Grid w base v G m f) (he : ∀ i j, i < G.length → j < m → f i j = f' i j) : Grid w base v G m f' := by
  refine ⟨h.top, h.nodup, fun i g hg => ?_⟩
  have hlt := (List.getElem?_eq_some_iff.1 hg).1
  have e : rowCells f m i = rowCells f' m i := by
    unfold rowCells
    apply List.map_congr_left
    intro j hj
    rw [he i j hlt (by simpa using hj)]
  rw [← e]; exact h.row i g hg
theorem Grid.shape (h : Grid w base v G m f) (hG : 0 < G.length) : ∃ gv cap, v = .slice (some ⟨gv, 0, none⟩) G.length cap ∧ base ≤ gv ∧ G.length ≤ cap := by
  rcases h.top.2 with ⟨_, h0⟩ | ⟨g, cap, cur, hv, hg, _, hc, _⟩
  · omega
  · exact ⟨g, cap, hv, hg, hc⟩
end

/-- A table as plain data. -/
def cRows (r : List Int) : List PV := [encInts r]
def encRows (t : List (List Int)) : PV := .sl 36 1 (t.flatMap cRows)
theorem cRows_len (x : List Int) : (cRows x).length = 1 := rfl
end Go.Proofs.Ytfigfpoklppkgaa
