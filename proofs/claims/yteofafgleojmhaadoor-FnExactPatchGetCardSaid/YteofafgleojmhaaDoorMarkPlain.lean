/- In plain words: what a law's helper writes into each cell of a value, and how many cells it counts. No program, no statement. -/
import Derived.Test.YteofafgleojmhaaDoorOnly
namespace Go.Proofs.YteofafgleojmhaaDoor
open Go.RowKit

/-- The figures of n, ahead of a text. -/
def digs (n : Nat) (acc : Str) : Str := if n = 0 then acc else digs (n / 10) (UInt8.ofNat (48 + n % 10) :: acc)
termination_by n
decreasing_by omega
theorem digs_zero (acc : Str) : digs 0 acc = acc := by rw [digs]; simp
theorem digs_step {n : Nat} (h : 0 < n) (acc : Str) : digs n acc = digs (n / 10) (UInt8.ofNat (48 + n % 10) :: acc) := by
  rw [digs, if_neg (by omega)]
/-- The text that marks a cell. -/
def markT (k : Int) : Str := 109 :: (if k ≤ 0 then [48] else digs k.toNat [])

section
variable {α : Type}
def marksWith (cnt : α → Nat) (mk : Int → α → α) : Int → List α → List α
  | _, [] => []
  | k, x :: xs => mk k x :: marksWith cnt mk (k + cnt x) xs
theorem marksWith_length (cnt : α → Nat) (mk : Int → α → α) : ∀ (k : Int) (xs : List α), (marksWith cnt mk k xs).length = xs.length
  | _, [] => rfl
  | k, x :: xs => by simp [marksWith, marksWith_length cnt mk _ xs]
theorem marksWith_get (cnt : α → Nat) (mk : Int → α → α) : ∀ (k : Int) (xs : List α) (i : Nat), (marksWith cnt mk k xs)[i]? = (xs[i]?).map (mk (k + ((xs.take i).map cnt).sum))
  | _, [], i => by simp [marksWith]
  | k, x :: xs, 0 => by simp [marksWith]
  | k, x :: xs, i + 1 => by
    simp only [marksWith, List.getElem?_cons_succ, marksWith_get cnt mk _ xs i, List.take_succ_cons, List.map_cons, List.sum_cons]
    congr 2
    omega
/-- The marked ones, and the rest. -/
def halfWith (cnt : α → Nat) (mk : Int → α → α) (k : Int) (xs : List α) (i : Nat) : List α := marksWith cnt mk k (xs.take i) ++ xs.drop i
theorem halfWith_zero (cnt : α → Nat) (mk : Int → α → α) (k : Int) (xs : List α) : halfWith cnt mk k xs 0 = xs := by simp [halfWith, marksWith]
theorem halfWith_all (cnt : α → Nat) (mk : Int → α → α) (k : Int) (xs : List α) {i : Nat} (h : xs.length ≤ i) : halfWith cnt mk k xs i = marksWith cnt mk k xs := by
  simp [halfWith, List.take_of_length_le h, List.drop_of_length_le h]
theorem halfWith_length (cnt : α → Nat) (mk : Int → α → α) (k : Int) (xs : List α) (i : Nat) : (halfWith cnt mk k xs i).length = xs.length := by
  simp [halfWith, marksWith_length]; omega
theorem halfWith_at (cnt : α → Nat) (mk : Int → α → α) (k : Int) (xs : List α) (i : Nat) : (halfWith cnt mk k xs i)[i]? = xs[i]? := by
  unfold halfWith
  by_cases h : i < xs.length
  · rw [List.getElem?_append_right (by rw [marksWith_length, List.length_take]; omega), marksWith_length, List.length_take, List.getElem?_drop]
    congr 1
    omega
  · rw [List.getElem?_eq_none (by simp [marksWith_length]; omega), List.getElem?_eq_none (by omega)]
theorem halfWith_step (cnt : α → Nat) (mk : Int → α → α) (k : Int) {xs : List α} {i : Nat} {x : α} (hx : xs[i]? = some x) :
    (halfWith cnt mk k xs i).set i (mk (k + ((xs.take i).map cnt).sum) x) = halfWith cnt mk k xs (i + 1) := by
  have hi := (List.getElem?_eq_some_iff.1 hx).1
  apply List.ext_getElem?
  intro j
  have hb : ∀ n j, (halfWith cnt mk k xs n)[j]? = if j < n then (xs[j]?).map (mk (k + ((xs.take j).map cnt).sum)) else xs[j]? := by
    intro n j
    unfold halfWith
    by_cases hj : j < n
    · rw [if_pos hj]
      by_cases hjx : j < xs.length
      · rw [List.getElem?_append_left (by rw [marksWith_length, List.length_take]; omega), marksWith_get, List.getElem?_take_of_lt hj, List.take_take, Nat.min_eq_left (Nat.le_of_lt hj)]
      · rw [List.getElem?_eq_none (by simp [marksWith_length]; omega), List.getElem?_eq_none (by omega)]; rfl
    · rw [if_neg hj]
      by_cases hjx : j < xs.length
      · rw [List.getElem?_append_right (by rw [marksWith_length, List.length_take]; omega), marksWith_length, List.length_take, List.getElem?_drop]
        congr 1
        omega
      · rw [List.getElem?_eq_none (by simp [marksWith_length]; omega), List.getElem?_eq_none (by omega)]
  by_cases hj : j = i
  · subst hj
    rw [List.getElem?_set_self (by rw [halfWith_length]; exact hi), hb, if_pos (by omega), hx]; rfl
  · rw [List.getElem?_set_ne (by omega), hb, hb]
    by_cases h2 : j < i
    · rw [if_pos h2, if_pos (by omega)]
    · rw [if_neg h2, if_neg (by omega)]
theorem sum_take_succ {cnt : α → Nat} {xs : List α} {i : Nat} {x : α} (hx : xs[i]? = some x) : ((xs.take (i + 1)).map cnt).sum = ((xs.take i).map cnt).sum + cnt x := by
  rw [List.take_add_one, hx]; simp
theorem sum_take_le {cnt : α → Nat} (xs : List α) (i : Nat) : ((xs.take i).map cnt).sum ≤ (xs.map cnt).sum := by
  have h := congrArg (fun l => (l.map cnt).sum) (List.take_append_drop i xs)
  simp only [List.map_append, List.sum_append] at h
  omega
end
theorem sum_ones {α : Type} : ∀ xs : List α, (xs.map fun _ => 1).sum = xs.length
  | [] => rfl
  | _ :: xs => by simp [sum_ones xs]; omega
def cntStr (_ : Str) : Nat := 1
def cntInt (_ : Int) : Nat := 1
def markTs (k : Int) (xs : List Str) : List Str := marksWith cntStr (fun k _ => markT k) k xs
def markIs (k : Int) (xs : List Int) : List Int := marksWith cntInt (fun k _ => k) k xs
theorem cntStr_sum (xs : List Str) : (xs.map cntStr).sum = xs.length := sum_ones xs
theorem cntInt_sum (xs : List Int) : (xs.map cntInt).sum = xs.length := sum_ones xs

theorem Own.shape {w : World} {e z : Nat} {ps : List PV} {v : Value} {F : List Nat} (h : Own w (.sl e z ps) v F) : ∃ A n c, v = .slice A n c := by
  obtain ⟨n, us, G, hr, _⟩ := h
  rcases hr.2 with ⟨rfl, _⟩ | ⟨g, cap, cur, rfl, _⟩
  · exact ⟨_, _, _, rfl⟩
  · exact ⟨_, _, _, rfl⟩
/-- The value's row, and what its cells own. -/
theorem Own.open_ {w : World} {e z n c : Nat} {A : Option Addr} {ps : List PV} {F : List Nat} (h : Own w (.sl e z ps) (.slice A n c) F) :
    ∃ us G, w.ownsRow 0 e z (.slice A n c) n us ∧ F = (Value.slice A n c).ownBlock.toList ++ G ∧ Owns w ps us G ∧ ps.length = n * z ∧ n ≤ c ∧ c ≤ 9223372036854775807 ∧ (0 < n → ∃ g, A = some ⟨g, 0, none⟩) := by
  obtain ⟨n', us, G, hr, hF, ho⟩ := h
  have hl := ho.length
  have h1 := hr.1
  rcases hr.2 with ⟨e1, e2⟩ | ⟨g, cap, cur, e1, _, _, e4, e5, _⟩
  · cases e1
    subst e2
    exact ⟨us, G, hr, hF, ho, by omega, Nat.le_refl _, by omega, fun h => absurd h (by omega)⟩
  · cases e1
    exact ⟨us, G, hr, hF, ho, by omega, e4, by simpa [maxLen] using e5, fun _ => ⟨g, rfl⟩⟩
theorem Own.shut {w : World} {e z n c : Nat} {A : Option Addr} {ps : List PV} {us : List Value} {F G : List Nat} (hr : w.ownsRow 0 e z (.slice A n c) n us) (hF : F = (Value.slice A n c).ownBlock.toList ++ G) (ho : Owns w ps us G) :
    Own w (.sl e z ps) (.slice A n c) F := ⟨n, us, G, hr, hF, ho⟩
end Go.Proofs.YteofafgleojmhaaDoor
