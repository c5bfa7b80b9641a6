/- Slices of strings and of integers: literals, rows of the call's own. No program's function. -/
import Derived.Test.YteofafgleojmhaaDoorText
import Derived.Test.YteofafgleojmhaaDoorOnly
namespace Go.Proofs.YteofafgleojmhaaDoor
open Go.RowKit

theorem heap_new (w : World) (o : Obj) : (w.alloc o).heap[w.heap.size]? = some o := by unfold World.alloc; simp
theorem flat_str (xs : List Str) : xs.flatMap cText = xs.map PV.str := by
  induction xs with
  | nil => rfl
  | cons x xs ih => simp [cText, ih]
theorem flat_int (xs : List Int) : xs.flatMap cInts = xs.map (PV.int .i64) := by
  induction xs with
  | nil => rfl
  | cons x xs ih => simp [cInts, ih]
theorem owns_ints (w : World) : ∀ xs : List Int, Owns w (xs.flatMap cInts) (xs.map fun s => .int .i64 s) []
  | [] => ⟨rfl, rfl⟩
  | _ :: xs => ⟨_, _, [], [], rfl, rfl, ⟨rfl, rfl⟩, owns_ints w xs⟩
theorem owns_ints_inv {w : World} : ∀ {xs : List Int} {us : List Value} {F : List Nat}, Owns w (xs.flatMap cInts) us F → us = xs.map (fun s => .int .i64 s) ∧ F = []
  | [], _, _, h => ⟨h.1, h.2⟩
  | x :: xs, _, _, ⟨u, us', F1, F2, hu, hF, h1, h2⟩ => by
    obtain ⟨e1, e2⟩ := owns_ints_inv (xs := xs) h2
    subst hu hF e1 e2
    rw [h1.1, h1.2]
    exact ⟨rfl, rfl⟩
theorem owns_strs_inv {w : World} : ∀ {xs : List Str} {us : List Value} {F : List Nat}, Owns w (xs.flatMap cText) us F → us = xs.map (fun s => .string ⟨s.toArray⟩) ∧ F = []
  | [], _, _, h => ⟨h.1, h.2⟩
  | x :: xs, _, _, ⟨u, us', F1, F2, hu, hF, h1, h2⟩ => by
    obtain ⟨e1, e2⟩ := owns_strs_inv (xs := xs) h2
    subst hu hF e1 e2
    rw [h1.1, h1.2]
    exact ⟨rfl, rfl⟩
/-- A value that owns its blocks and reads as integers: a row of the call's own. -/
theorem Fresh.ints {w : World} {lo hi n c : Nat} {A : Option Addr} {xs : List Int} (h : Fresh w lo hi (encInts xs) (.slice A n c)) : n = xs.length ∧ w.ownsRow lo 3 1 (.slice A n c) n (xs.map fun s => .int .i64 s) := by
  have hn := Ints.n h.rep
  obtain ⟨n', us, G, hr, ho, _⟩ := h.parts
  obtain ⟨rfl, _⟩ := owns_ints_inv ho
  have : n' = n := by have := hr.1; simp at this; omega
  subst this
  exact ⟨hn, hr⟩
theorem Fresh.strs {w : World} {lo hi n c : Nat} {A : Option Addr} {xs : List Str} (h : Fresh w lo hi (encText xs) (.slice A n c)) : n = xs.length ∧ w.ownsRow lo 9 1 (.slice A n c) n (xs.map fun s => .string ⟨s.toArray⟩) := by
  have hn := Text.n h.rep
  obtain ⟨n', us, G, hr, ho, _⟩ := h.parts
  obtain ⟨rfl, _⟩ := owns_strs_inv ho
  have : n' = n := by have := hr.1; simp at this; omega
  subst this
  exact ⟨hn, hr⟩
theorem heap_new' (w : World) (o : Obj) : (w.alloc o).heap[w.heap.size]? = some o := by unfold World.alloc; simp
/-- Cells that lie in a new block. -/
theorem Src.lit (w : World) (t : TypeId) (us : List Value) (z m : Nat) (h : us.length = m * z) : Src (w.alloc (.cells us.toArray t)) z (some ⟨w.heap.size, 0, none⟩) m us :=
  ⟨h, fun _ => ⟨w.heap.size, 0, rfl, fun j u hu => by
    simp only [World.cell?, heap_new']
    simpa using hu⟩⟩
theorem lit_text (w : World) (t : TypeId) (xs : List Str) (hn : xs.length ≤ maxLen) :
    Rep (w.alloc (.cells (xs.map fun s => .string ⟨s.toArray⟩).toArray t)) w.heap.size (w.heap.size + 1) (encText xs) (.slice (some ⟨w.heap.size, 0, none⟩) xs.length xs.length) := by
  unfold encText encTextE
  rw [flat_str]
  refine .sl (fun j => ((xs.map fun s => (.string ⟨s.toArray⟩ : Value))[j]?).getD (.int .i64 0)) (by simp) (Nat.le_refl _) hn (by simp) (fun _ => ⟨w.heap.size, 0, rfl, by omega, by omega, fun j hj => ?_⟩) (fun j p hj => ?_)
  · have hj' : j < xs.length := by simpa using hj
    simp only [World.cell?, heap_new]
    simp [hj']
  · rw [List.getElem?_map] at hj ⊢
    cases hx : xs[j]? with
    | none => rw [hx] at hj; simp at hj
    | some s => rw [hx] at hj; simp at hj; subst hj; exact .str s
theorem lit_ints (w : World) (t : TypeId) (xs : List Int) (hn : xs.length ≤ maxLen) :
    Rep (w.alloc (.cells (xs.map fun s => .int .i64 s).toArray t)) w.heap.size (w.heap.size + 1) (encInts xs) (.slice (some ⟨w.heap.size, 0, none⟩) xs.length xs.length) := by
  unfold encInts encIntsE
  rw [flat_int]
  refine .sl (fun j => ((xs.map fun s => (.int .i64 s : Value))[j]?).getD (.int .i64 0)) (by simp) (Nat.le_refl _) hn (by simp) (fun _ => ⟨w.heap.size, 0, rfl, by omega, by omega, fun j hj => ?_⟩) (fun j p hj => ?_)
  · have hj' : j < xs.length := by simpa using hj
    simp only [World.cell?, heap_new]
    simp [hj']
  · rw [List.getElem?_map] at hj ⊢
    cases hx : xs[j]? with
    | none => rw [hx] at hj; simp at hj
    | some s => rw [hx] at hj; simp at hj; subst hj; exact .int .i64 s
theorem ownsRow_base {w : World} {base base' e z n : Nat} {v : Value} {us : List Value} (h : w.ownsRow base e z v n us) (hb : base' ≤ base) : w.ownsRow base' e z v n us := by
  refine ⟨h.1, ?_⟩
  rcases h.2 with h2 | ⟨g, cap, cur, r1, r2, r3⟩
  · exact .inl h2
  · exact .inr ⟨g, cap, cur, r1, Nat.le_trans hb r2, r3⟩
end Go.Proofs.YteofafgleojmhaaDoor
