/- Several of my texts in one: Lit, RepL, RowsZ. -/
import Derived.Test.YtmickenajhppoaaGreatDoorZ02
import Derived.Test.YtmickenajhppoaaGreatDoorZ08
import Derived.Test.YtmickenajhppoaaGreatDoorZ01
/- Slices of strings and of integers: literals, rows of the call's own. No program's function. -/
namespace Go.Proofs.YtmickenajhppoaaGreatDoor
open Go.RowKit

theorem heap_new (w : World) (o : Obj) : (w.alloc o).heap[w.heap.size]? = some o := by unfold World.alloc; simp
theorem flat_str (xs : List Str) : xs.flatMap cText = xs.map PV.str := by
  induction xs with
  | nil => rfl
  | cons x xs ih => simp [cText, ih]
theorem flat_int (xs : List Int) : xs.flatMap cInts = xs.map (PV.int .i64) := by
  induction xs with
  | nil => rfl
  | cons x xs ih => simp [cInts, ih]
theorem owns_ints (w : World) : ∀ xs : List Int, Owns w (xs.flatMap cInts) (xs.map fun s => .int .i64 s) []
  | [] => ⟨rfl, rfl⟩
  | _ :: xs => ⟨_, _, [], [], rfl, rfl, ⟨rfl, rfl⟩, owns_ints w xs⟩
theorem owns_ints_inv {w : World} : ∀ {xs : List Int} {us : List Value} {F : List Nat}, Owns w (xs.flatMap cInts) us F → us = xs.map (fun s => .int .i64 s) ∧ F = []
  | [], _, _, h => ⟨h.1, h.2⟩
  | x :: xs, _, _, ⟨u, us', F1, F2, hu, hF, h1, h2⟩ => by
    obtain ⟨e1, e2⟩ := owns_ints_inv (xs := xs) h2
    subst hu hF e1 e2
    rw [h1.1, h1.2]
    exact ⟨rfl, rfl⟩
theorem owns_strs_inv {w : World} : ∀ {xs : List Str} {us : List Value} {F : List Nat}, Owns w (xs.flatMap cText) us F → us = xs.map (fun s => .string ⟨s.toArray⟩) ∧ F = []
  | [], _, _, h => ⟨h.1, h.2⟩
  | x :: xs, _, _, ⟨u, us', F1, F2, hu, hF, h1, h2⟩ => by
    obtain ⟨e1, e2⟩ := owns_strs_inv (xs := xs) h2
    subst hu hF e1 e2
    rw [h1.1, h1.2]
    exact ⟨rfl, rfl⟩
/-- A value that owns its blocks and reads as integers: a row of the call's own. -/
theorem Fresh.ints {w : World} {lo hi n c : Nat} {A : Option Addr} {xs : List Int} (h : Fresh w lo hi (encInts xs) (.slice A n c)) : n = xs.length ∧ w.ownsRow lo 3 1 (.slice A n c) n (xs.map fun s => .int .i64 s) := by
  have hn := Ints.n h.rep
  obtain ⟨n', us, G, hr, ho, _⟩ := h.parts
  obtain ⟨rfl, _⟩ := owns_ints_inv ho
  have : n' = n := by have := hr.1; simp at this; omega
  subst this
  exact ⟨hn, hr⟩
theorem Fresh.strs {w : World} {lo hi n c : Nat} {A : Option Addr} {xs : List Str} (h : Fresh w lo hi (encText xs) (.slice A n c)) : n = xs.length ∧ w.ownsRow lo 9 1 (.slice A n c) n (xs.map fun s => .string ⟨s.toArray⟩) := by
  have hn := Text.n h.rep
  obtain ⟨n', us, G, hr, ho, _⟩ := h.parts
  obtain ⟨rfl, _⟩ := owns_strs_inv ho
  have : n' = n := by have := hr.1; simp at this; omega
  subst this
  exact ⟨hn, hr⟩
theorem heap_new' (w : World) (o : Obj) : (w.alloc o).heap[w.heap.size]? = some o := by unfold World.alloc; simp
/-- Cells that lie in a new block. -/
theorem Src.lit (w : World) (t : TypeId) (us : List Value) (z m : Nat) (h : us.length = m * z) : Src (w.alloc (.cells us.toArray t)) z (some ⟨w.heap.size, 0, none⟩) m us :=
  ⟨h, fun _ => ⟨w.heap.size, 0, rfl, fun j u hu => by
    simp only [World.cell?, heap_new']
    simpa using hu⟩⟩
theorem lit_text (w : World) (t : TypeId) (xs : List Str) (hn : xs.length ≤ maxLen) :
    Rep (w.alloc (.cells (xs.map fun s => .string ⟨s.toArray⟩).toArray t)) w.heap.size (w.heap.size + 1) (encText xs) (.slice (some ⟨w.heap.size, 0, none⟩) xs.length xs.length) := by
  unfold encText encTextE
  rw [flat_str]
  refine .sl (fun j => ((xs.map fun s => (.string ⟨s.toArray⟩ : Value))[j]?).getD (.int .i64 0)) (by simp) (Nat.le_refl _) hn (by simp) (fun _ => ⟨w.heap.size, 0, rfl, by omega, by omega, fun j hj => ?_⟩) (fun j p hj => ?_)
  · have hj' : j < xs.length := by simpa using hj
    simp only [World.cell?, heap_new]
    simp [hj']
  · rw [List.getElem?_map] at hj ⊢
    cases hx : xs[j]? with
    | none => rw [hx] at hj; simp at hj
    | some s => rw [hx] at hj; simp at hj; subst hj; exact .str s
theorem lit_ints (w : World) (t : TypeId) (xs : List Int) (hn : xs.length ≤ maxLen) :
    Rep (w.alloc (.cells (xs.map fun s => .int .i64 s).toArray t)) w.heap.size (w.heap.size + 1) (encInts xs) (.slice (some ⟨w.heap.size, 0, none⟩) xs.length xs.length) := by
  unfold encInts encIntsE
  rw [flat_int]
  refine .sl (fun j => ((xs.map fun s => (.int .i64 s : Value))[j]?).getD (.int .i64 0)) (by simp) (Nat.le_refl _) hn (by simp) (fun _ => ⟨w.heap.size, 0, rfl, by omega, by omega, fun j hj => ?_⟩) (fun j p hj => ?_)
  · have hj' : j < xs.length := by simpa using hj
    simp only [World.cell?, heap_new]
    simp [hj']
  · rw [List.getElem?_map] at hj ⊢
    cases hx : xs[j]? with
    | none => rw [hx] at hj; simp at hj
    | some s => rw [hx] at hj; simp at hj; subst hj; exact .int .i64 s
theorem ownsRow_base {w : World} {base base' e z n : Nat} {v : Value} {us : List Value} (h : w.ownsRow base e z v n us) (hb : base' ≤ base) : w.ownsRow base' e z v n us := by
  refine ⟨h.1, ?_⟩
  rcases h.2 with h2 | ⟨g, cap, cur, r1, r2, r3⟩
  · exact .inl h2
  · exact .inr ⟨g, cap, cur, r1, Nat.le_trans hb r2, r3⟩
end Go.Proofs.YtmickenajhppoaaGreatDoor

/- Cells that read as plain data, element by element: for slices that share their parts with others. And what owns its blocks, split. Over any program. -/
namespace Go.Proofs.YtmickenajhppoaaGreatDoor
open Go.RowKit

/-- The values read as the data, one each. -/
def RepL (w : World) (lo hi : Nat) (ps : List PV) (us : List Value) : Prop := us.length = ps.length ∧ ∀ (j : Nat) (p : PV), ps[j]? = some p → ∃ u : Value, us[j]? = some u ∧ Rep w lo hi p u
section
variable {w w' : World} {lo hi lo' hi' B : Nat} {ps qs : List PV} {us vs : List Value}
theorem RepL.nil (w : World) (lo hi : Nat) : RepL w lo hi [] [] := ⟨rfl, fun j p h => by simp at h⟩
theorem RepL.same (h : RepL w lo hi ps us) (hs : Same lo hi w w') : RepL w' lo hi ps us := ⟨h.1, fun j p hj => let ⟨u, hu, hr⟩ := h.2 j p hj; ⟨u, hu, hr.same hs⟩⟩
theorem RepL.mono (h : RepL w lo hi ps us) (hl : lo' ≤ lo) (hh : hi ≤ hi') : RepL w lo' hi' ps us := ⟨h.1, fun j p hj => let ⟨u, hu, hr⟩ := h.2 j p hj; ⟨u, hu, hr.mono hl hh⟩⟩
theorem RepL.keep (h : RepL w lo hi ps us) (hb : Below B w w') (hh : hi ≤ B) : RepL w' lo hi ps us := h.same (.of_below hb hh)
theorem RepL.append (h : RepL w lo hi ps us) (h' : RepL w lo hi qs vs) : RepL w lo hi (ps ++ qs) (us ++ vs) := by
  refine ⟨by simp [h.1, h'.1], fun j p hj => ?_⟩
  by_cases hlt : j < ps.length
  · rw [List.getElem?_append_left hlt] at hj
    rw [List.getElem?_append_left (by rw [h.1]; exact hlt)]
    exact h.2 j p hj
  · rw [List.getElem?_append_right (by omega)] at hj
    rw [List.getElem?_append_right (by rw [h.1]; omega), h.1]
    exact h'.2 _ p hj
theorem RepL.cons {p : PV} {u : Value} (h : Rep w lo hi p u) (h' : RepL w lo hi ps us) : RepL w lo hi (p :: ps) (u :: us) :=
  RepL.append (ps := [p]) (us := [u]) ⟨rfl, fun j q hj => by
    cases j with
    | zero => simp at hj; subst hj; exact ⟨u, rfl, h⟩
    | succ j => simp at hj⟩ h'
/-- A row of the call's own, whose cells read so. -/
theorem RepL.row {e z n base : Nat} {v : Value} (h : w.ownsRow base e z v n us) (hl : RepL w lo hi ps us) (hb : lo ≤ base) (hh : w.heap.size ≤ hi) : Rep w lo hi (.sl e z ps) v := by
  have hn : ps.length = n * z := by rw [← hl.1]; exact h.1
  rcases h.2 with ⟨rfl, h0⟩ | ⟨g, cap, cur, rfl, hg, hblk, hnc, hcm, hcs, ht⟩
  · subst h0
    have : ps = [] := List.eq_nil_of_length_eq_zero (by rw [hn]; simp)
    subst this
    exact Rep.of_nil _ _ _ _ _
  · refine .sl (fun j => us.getD j undef) hn hnc hcm (fun h => by cases h) (fun _ => ⟨g, 0, rfl, by omega, ?_, fun j hj => ?_⟩) (fun j p hj => ?_)
    · have := (h.lt g rfl).2; omega
    · have hju : j < us.length := by rw [hl.1]; exact hj
      have := h.cells (g := g) rfl j us[j] (List.getElem?_eq_getElem hju)
      simp only [Addr.add_lit] at this
      rw [this]
      simp [hju]
    · obtain ⟨u, hu, hr⟩ := hl.2 j p hj
      rw [List.getD, hu]
      exact hr
theorem Rep.cells_ {e z n c : Nat} {A : Option Addr} (h : Rep w lo hi (.sl e z ps) (.slice A n c)) : ∃ us : List Value, Src w z A n us ∧ RepL w lo hi ps us := by
  obtain ⟨us, h1, h2, h3⟩ := h.src
  exact ⟨us, h1, h2, h3⟩
end

/-- A row whose block lies above what its cells own. -/
theorem Fresh.row_above' {w : World} {lo mid e z n : Nat} {v : Value} {ps : List PV} {us : List Value} (h : w.ownsRow mid e z v n us) (hl : FreshL w lo mid ps us) (hm : lo ≤ mid) (hh : mid ≤ w.heap.size) : Fresh w lo w.heap.size (.sl e z ps) v := by
  obtain ⟨F, ho, hn, hk⟩ := hl
  refine ⟨v.ownBlock.toList ++ F, ⟨n, us, F, ⟨h.1, ?_⟩, rfl, ho⟩, List.nodup_append.2 ⟨by cases v.ownBlock <;> simp, hn, fun a ha b hb e => ?_⟩, fun k m => ?_⟩
  · rcases h.2 with h2 | ⟨g, cap, cur, r⟩
    · exact .inl h2
    · exact .inr ⟨g, cap, cur, r.1, Nat.zero_le _, r.2.2⟩
  · subst e
    have := h.lt a (by simpa using ha)
    have := hk a hb
    omega
  · rcases List.mem_append.1 m with m | m
    · have := h.lt k (by simpa using m); omega
    · have := hk k m; omega
theorem FreshL.reps1 {w : World} {lo hi : Nat} {p0 p1 : PV} {v0 v1 : Value} (h : FreshL w lo hi [p0, p1] [v0, v1]) : Rep w lo hi p1 v1 := by
  obtain ⟨F, ho, _, hk⟩ := h
  have := Owns.rep _ _ _ ho hk 1 p1 rfl
  simpa using this
theorem FreshL.reps2 {w : World} {lo hi : Nat} {p0 p1 : PV} {v0 v1 : Value} (h : FreshL w lo hi [p0, p1] [v0, v1]) : Rep w lo hi p0 v0 ∧ Rep w lo hi p1 v1 := by
  obtain ⟨F, ho, _, hk⟩ := h
  have h0 := Owns.rep _ _ _ ho hk 0 p0 rfl
  have h1 := Owns.rep _ _ _ ho hk 1 p1 rfl
  exact ⟨by simpa using h0, by simpa using h1⟩
theorem Owns.split {w : World} : ∀ {ps qs : List PV} {us : List Value} {F : List Nat}, Owns w (ps ++ qs) us F → ∃ us1 us2 F1 F2, us = us1 ++ us2 ∧ F = F1 ++ F2 ∧ Owns w ps us1 F1 ∧ Owns w qs us2 F2
  | [], _, us, F, h => ⟨[], us, [], F, rfl, rfl, ⟨rfl, rfl⟩, h⟩
  | p :: ps, qs, us, F, ⟨u, us', F1, F2, hu, hF, h1, h2⟩ => by
    obtain ⟨v1, v2, G1, G2, e1, e2, h3, h4⟩ := Owns.split (ps := ps) (qs := qs) h2
    refine ⟨u :: v1, v2, F1 ++ G1, G2, by rw [hu, e1]; rfl, by rw [hF, e2, List.append_assoc], ⟨u, v1, F1, G1, rfl, rfl, h1, h3⟩, h4⟩
end Go.Proofs.YtmickenajhppoaaGreatDoor

/- Rows of files whose texts lie elsewhere: pairs of a file and the value of its text. -/
namespace Go.Proofs.YtmickenajhppoaaGreatDoor
open Go.RowKit

def cellsZ (zs : List (PFile × Value)) : List Value := zs.flatMap fun z => [.string ⟨z.1.path.toArray⟩, z.2]
def filesZ (zs : List (PFile × Value)) : List PFile := zs.map (·.1)
theorem cellsZ_append (a b : List (PFile × Value)) : cellsZ (a ++ b) = cellsZ a ++ cellsZ b := by simp [cellsZ]
theorem filesZ_append (a b : List (PFile × Value)) : filesZ (a ++ b) = filesZ a ++ filesZ b := by simp [filesZ]
theorem cellsZ_len (zs : List (PFile × Value)) : (cellsZ zs).length = zs.length * 2 := by
  induction zs with
  | nil => rfl
  | cons z zs ih =>
    have e : cellsZ (z :: zs) = [.string ⟨z.1.path.toArray⟩, z.2] ++ cellsZ zs := rfl
    rw [e, List.length_append, ih, List.length_cons]
    simp
    omega
theorem filesZ_len (zs : List (PFile × Value)) : (filesZ zs).length = zs.length := by simp [filesZ]
theorem cellsZ_at : ∀ (zs : List (PFile × Value)) (k : Nat) (z : PFile × Value), zs[k]? = some z → (cellsZ zs)[k * 2]? = some (.string ⟨z.1.path.toArray⟩) ∧ (cellsZ zs)[k * 2 + 1]? = some z.2
  | y :: zs, 0, z, h => by
    simp at h
    subst h
    exact ⟨rfl, rfl⟩
  | y :: zs, k + 1, z, h => by
    have h9 := cellsZ_at zs k z (by simpa using h)
    have e : cellsZ (y :: zs) = .string ⟨y.1.path.toArray⟩ :: y.2 :: cellsZ zs := rfl
    rw [e, show (k + 1) * 2 = k * 2 + 2 by omega, show k * 2 + 2 + 1 = (k * 2 + 1) + 2 by omega]
    exact h9
theorem sub_zs {w : World} {lo hi : Nat} : ∀ (zs : List (PFile × Value)), (∀ z ∈ zs, Rep w lo hi (encText z.1.text) z.2) → ∀ j p, ((filesZ zs).flatMap cFiles)[j]? = some p → Rep w lo hi p ((cellsZ zs).getD j undef)
  | [], _, j, p, h => by simp [filesZ] at h
  | z :: zs, hr, 0, p, h => by
    have e : p = .str z.1.path := by simpa [filesZ, cFiles] using h.symm
    subst e
    exact .str _
  | z :: zs, hr, 1, p, h => by
    have e : p = encText z.1.text := by simpa [filesZ, cFiles] using h.symm
    subst e
    exact hr z List.mem_cons_self
  | z :: zs, hr, j + 2, p, h => by
    have e1 : (filesZ (z :: zs)).flatMap cFiles = cFiles z.1 ++ (filesZ zs).flatMap cFiles := rfl
    have e2 : cellsZ (z :: zs) = .string ⟨z.1.path.toArray⟩ :: z.2 :: cellsZ zs := rfl
    rw [e1] at h
    have h9 : ((filesZ zs).flatMap cFiles)[j]? = some p := by simpa [cFiles] using h
    rw [e2]
    exact sub_zs zs (fun y hy => hr y (List.mem_cons_of_mem _ hy)) j p h9
/-- A row of the call's own, whose texts can be read, reads as files. -/
theorem rep_zs {w : World} {base lo e n : Nat} {v : Value} {zs : List (PFile × Value)} (h : w.ownsRow base e 2 v n (cellsZ zs)) (hl : lo ≤ base) (hr : ∀ z ∈ zs, Rep w lo w.heap.size (encText z.1.text) z.2) : Rep w lo w.heap.size (.sl e 2 ((filesZ zs).flatMap cFiles)) v := by
  have hlen : ((filesZ zs).flatMap cFiles).length = n * 2 := by
    have h1 := h.1
    rw [cellsZ_len] at h1
    rw [length_flatMap_z cFiles_len, filesZ_len]
    exact h1
  rcases h.2 with ⟨rfl, hn⟩ | ⟨g, cap, cur, rfl, hg, hh, hnc, hcm, hcs, ht⟩
  · subst hn
    exact .sl (fun _ => undef) hlen (Nat.le_refl _) (Nat.zero_le _) (fun _ => rfl) (fun h => absurd h (by omega)) (fun j p hj => by
      have : (filesZ zs).flatMap cFiles = [] := List.eq_nil_of_length_eq_zero (by simpa using hlen)
      rw [this] at hj; simp at hj)
  · refine .sl (fun j => (cellsZ zs).getD j undef) hlen hnc hcm (fun h => by cases h) (fun _ => ⟨g, 0, rfl, by omega, (Array.getElem?_eq_some_iff.1 hh).1, fun j hj => ?_⟩) (sub_zs zs hr)
    have hju : j < (cellsZ zs).length := by rw [h.1]; omega
    have := h.cells (g := g) rfl j (cellsZ zs)[j] (List.getElem?_eq_getElem hju)
    simp only [Addr.add_lit] at this
    rw [this]
    simp [hju]
end Go.Proofs.YtmickenajhppoaaGreatDoor
