/- Words for memory, over any program: plain data (PV), a value that reads as plain data in some blocks (Rep), a value that owns its blocks (Own, Fresh), and how they are kept when the world grows. No program, no statement. -/
import Derived.WalkKit
import Derived.WalkSpells
import Derived.WalkLawsBesides
import Derived.Deep.AppendLies
import Derived.Deep.Draws
import Derived.Deep.QuietTactic
import Derived.BigQuiet
import Derived.Lib.Hide
import Derived.Maps.AppendAt
namespace Go.Proofs.YteofafgleojmhaaDoor
open Go.RowKit

abbrev Str := List UInt8

/-- Plain data: an integer, a bool, a string, a slice whose elements take z cells each (the cells are listed one behind the other). -/
inductive PV where
  | int (k : IntKind) (n : Int)
  | bool (b : Bool)
  | str (s : Str)
  | sl (e z : Nat) (ps : List PV)

/-- The value reads as the data; all blocks that are read lie in lo .. hi - 1. -/
inductive Rep (w : World) (lo hi : Nat) : PV → Value → Prop
  | int (k : IntKind) (n : Int) : Rep w lo hi (.int k n) (.int k n)
  | bool (b : Bool) : Rep w lo hi (.bool b) (.bool b)
  | str (s : Str) : Rep w lo hi (.str s) (.string ⟨s.toArray⟩)
  | sl {e z n c : Nat} {A : Option Addr} {ps : List PV} (us : Nat → Value) (len : ps.length = n * z) (cap : n ≤ c) (max : c ≤ maxLen) (nil : A = none → c = 0)
      (cell : 0 < n → ∃ b o, A = some ⟨b, o, none⟩ ∧ lo ≤ b ∧ b < hi ∧ ∀ j, j < ps.length → w.cell? ⟨b, o + j, none⟩ = some (us j))
      (sub : ∀ j p, ps[j]? = some p → Rep w lo hi p (us j)) : Rep w lo hi (.sl e z ps) (.slice A n c)

/-- Blocks lo .. hi - 1 are as they were. -/
def Same (lo hi : Nat) (w w' : World) : Prop := ∀ k, lo ≤ k → k < hi → w'.heap[k]? = w.heap[k]?

section
variable {w w' w'' : World} {lo hi lo' hi' B : Nat} {p : PV} {v : Value}
theorem Same.refl (lo hi : Nat) (w : World) : Same lo hi w w := fun _ _ _ => rfl
theorem Same.trans (h : Same lo hi w w') (h' : Same lo hi w' w'') : Same lo hi w w'' := fun k a b => (h' k a b).trans (h k a b)
theorem Same.setCell (h : Same lo hi w w') {p : Addr} (hp : p.block < lo ∨ hi ≤ p.block) (u : Value) : Same lo hi w (w'.setCell p u) :=
  fun k a b => (Below.heap_setCell w' p u k (by omega)).trans (h k a b)
theorem Same.alloc (h : Same lo hi w w') (hh : hi ≤ w'.heap.size) (o : Obj) : Same lo hi w (w'.alloc o) :=
  fun k a b => (Below.heap_alloc w' o k (by omega)).trans (h k a b)
theorem Same.mono (h : Same lo hi w w') (hl : lo ≤ lo') (hh : hi' ≤ hi) : Same lo' hi' w w' := fun k a b => h k (by omega) (by omega)
theorem Same.cell (h : Same lo hi w w') {a : Addr} (h1 : lo ≤ a.block) (h2 : a.block < hi) : w'.cell? a = w.cell? a := World.cell?_of_block (h _ h1 h2)
theorem Same.of_below (h : Below B w w') (hh : hi ≤ B) : Same lo hi w w' := fun k _ b => h.block k (by omega)
theorem Same.drewN (w : World) (n : Nat) : Same lo hi w (w.drewN n) := fun _ _ _ => rfl
theorem Same.of_grown {row : Option Nat} (h : w.grownBy w' row) (hh : hi ≤ w.heap.size) (hr : ∀ g, row = some g → g < lo ∨ hi ≤ g) : Same lo hi w w' :=
  fun k a b => h.block k (by omega) (fun e => by have := hr k e.symm; omega)

theorem Rep.same (h : Rep w lo hi p v) (hs : Same lo hi w w') : Rep w' lo hi p v := by
  induction h with
  | int k n => exact .int k n
  | bool b => exact .bool b
  | str s => exact .str s
  | sl us len cap max nil cell sub ih =>
    refine .sl us len cap max nil (fun hn => ?_) ih
    obtain ⟨b, o, e, h1, h2, hc⟩ := cell hn
    exact ⟨b, o, e, h1, h2, fun j hj => (hs.cell (a := ⟨b, o + j, none⟩) h1 h2).trans (hc j hj)⟩
theorem Rep.mono (h : Rep w lo hi p v) (hl : lo' ≤ lo) (hh : hi ≤ hi') : Rep w lo' hi' p v := by
  induction h with
  | int k n => exact .int k n
  | bool b => exact .bool b
  | str s => exact .str s
  | sl us len cap max nil cell sub ih =>
    refine .sl us len cap max nil (fun hn => ?_) ih
    obtain ⟨b, o, e, h1, h2, hc⟩ := cell hn
    exact ⟨b, o, e, by omega, by omega, hc⟩
theorem Rep.keep (h : Rep w lo hi p v) (hb : Below B w w') (hh : hi ≤ B) : Rep w' lo hi p v := h.same (.of_below hb hh)
theorem Rep.drewN (h : Rep w lo hi p v) (n : Nat) : Rep (w.drewN n) lo hi p v := h.same (.drewN w n)
theorem Rep.any_e {e e' z : Nat} {ps : List PV} (h : Rep w lo hi (.sl e z ps) v) : Rep w lo hi (.sl e' z ps) v := by
  cases h with
  | sl us len cap max nil cell sub => exact .sl us len cap max nil cell sub
end

theorem below_drewN {B : Nat} {a w : World} (h : Below B a w) (n : Nat) : Below B a (w.drewN n) := ⟨h.os, h.tape, h.output, h.size, h.block⟩

theorem bcell {W w1 : World} (hb : Below W.heap.size W w1) : (∀ b o, b < W.heap.size → w1.cell? ⟨b, o, none⟩ = W.cell? ⟨b, o, none⟩) ∧ (∀ b o, b < W.heap.size → w1.frozen? ⟨b, o, none⟩ = W.frozen? ⟨b, o, none⟩) :=
  ⟨fun b o h => hb.cell (p := ⟨b, o, none⟩) h, fun b o h => hb.frozen (p := ⟨b, o, none⟩) h⟩

theorem quiet_left {P : Program} {f : FuncId} {args : Array Value} {w : World} {n : Nat} {v : Value} (h : Calls P f args (w.drewN n) fun e w' => e = .returned v ∧ w.drewN n = w') :
    Calls P f args (w.drewN n) fun e w'' => e = .returned v ∧ ∃ m, w'' = w.drewN m := h.mono fun _ _ hh => ⟨hh.1, n, hh.2.symm⟩
theorem quiet_add_left {P : Program} {f : FuncId} {args : Array Value} {w : World} {a n : Nat} {v : Value} (h : Calls P f args (w.drewN (a + n)) fun e w' => e = .returned v ∧ w.drewN (a + n) = w') :
    Calls P f args (w.drewN (a + n)) fun e w'' => e = .returned v ∧ ∃ m, w'' = w.drewN (a + m) := h.mono fun _ _ hh => ⟨hh.1, n, hh.2.symm⟩

/-- A world in which all that lay in w lies as it was. -/
structure Later (w : World) where
  val : World
  below : Below w.heap.size w val
instance laterNonempty (w : World) : Nonempty (Later w) := ⟨⟨w, Below.refl _ _⟩⟩
theorem Later.cell {w : World} {a : Addr} {v : Value} (h : w.cell? a = some v) : ∀ x : Later w, x.val.cell? a = some v := fun x => (x.below.cell (World.block_lt_of_cell? w a h)).trans h
/-- A region that draws its order, whose operations yield one value in every later world and leave such a world: walked once, in the text's order. -/
theorem wp_region_later_lit {P : Program} {id : Nat} {Q : Exit → Act → World → Prop} {a : Act} {w : World} {l : List Oper} (hm : P.follows .mixedOrders = true) (hB : Region.lexB .any l.toArray = true)
    (h : wpQuiet P l.toArray (fun w' => ∃ x : Later w, w' = x.val) (fun a' => ∀ w', (∃ x : Later w, w' = x.val) → Q .normal a' w') l a) : (Code.region id l.toArray true).wp P Q a w :=
  wp_region_quiet (C := fun w' => ∃ x : Later w, w' = x.val) hm hB ⟨⟨{ w with drawn := w.drawn + 1 }, ⟨rfl, rfl, rfl, Nat.le_refl _, fun _ _ => rfl⟩⟩, rfl⟩ (by simpa using h)
theorem name_world {P : Program} {c : Code} {Q : Exit → Act → World → Prop} {a : Act} {w : World} (h : ∀ W, W = w → Code.wp P c Q a W) : Code.wp P c Q a w := h w rfl
/-- A contract, met in a later world. -/
theorem Calls.later {P : Program} {f : FuncId} {args : Array Value} {w : World} {x : Later w} {v : Value} (h : Calls P f args x.val fun e w' => e = .returned v ∧ Below x.val.heap.size x.val w') :
    Calls P f args x.val fun e w'' => e = .returned v ∧ ∃ y : Later w, w'' = y.val :=
  h.mono fun _ w' hh => ⟨hh.1, ⟨w', x.below.trans (hh.2.mono x.below.size)⟩, rfl⟩
theorem Calls.later_same {P : Program} {f : FuncId} {args : Array Value} {w : World} {x : Later w} {v : Value} (h : Calls P f args x.val fun e w' => e = .returned v ∧ x.val = w') :
    Calls P f args x.val fun e w'' => e = .returned v ∧ ∃ y : Later w, w'' = y.val :=
  h.mono fun _ _ hh => ⟨hh.1, x, hh.2.symm⟩
theorem Calls.later_drew {P : Program} {f : FuncId} {args : Array Value} {w : World} {x : Later w} {v : Value} (h : Calls P f args x.val fun e w' => e = .returned v ∧ ∃ k, w' = x.val.drewN k) :
    Calls P f args x.val fun e w'' => e = .returned v ∧ ∃ y : Later w, w'' = y.val :=
  h.mono fun _ w' hh => ⟨hh.1, ⟨w', by obtain ⟨k, hk⟩ := hh.2; rw [hk]; exact below_drewN x.below k⟩, rfl⟩
theorem Rep.later {w : World} {lo hi : Nat} {p : PV} {v : Value} (h : Rep w lo hi p v) (hh : hi ≤ w.heap.size) (x : Later w) : Rep x.val lo hi p v := h.keep x.below hh

/-! ### The value owns its blocks -/
mutual
/-- The value is the data, in blocks of its own: F lists them. -/
def Own (w : World) : PV → Value → List Nat → Prop
  | .int k n, v, F => v = .int k n ∧ F = []
  | .bool b, v, F => v = .bool b ∧ F = []
  | .str s, v, F => v = .string ⟨s.toArray⟩ ∧ F = []
  | .sl e z ps, v, F => ∃ n us G, w.ownsRow 0 e z v n us ∧ F = v.ownBlock.toList ++ G ∧ Owns w ps us G
def Owns (w : World) : List PV → List Value → List Nat → Prop
  | [], us, F => us = [] ∧ F = []
  | p :: ps, us, F => ∃ u us' F1 F2, us = u :: us' ∧ F = F1 ++ F2 ∧ Own w p u F1 ∧ Owns w ps us' F2
end

theorem ownsRow_same {w w' : World} {base e z n : Nat} {v : Value} {us : List Value} (h : w.ownsRow base e z v n us) (hs : ∀ k ∈ v.ownBlock.toList, w'.heap[k]? = w.heap[k]?) : w'.ownsRow base e z v n us := by
  refine ⟨h.1, ?_⟩
  rcases h.2 with h2 | ⟨g, cap, cur, rfl, hg, hh, r⟩
  · exact .inl h2
  · exact .inr ⟨g, cap, cur, rfl, hg, (hs g (by simp [Value.ownBlock])).trans hh, r⟩

mutual
theorem Own.same {w w' : World} : ∀ (p : PV) (v : Value) (F : List Nat), Own w p v F → (∀ k ∈ F, w'.heap[k]? = w.heap[k]?) → Own w' p v F
  | .int _ _, _, _, h, _ => h
  | .bool _, _, _, h, _ => h
  | .str _, _, _, h, _ => h
  | .sl _ _ ps, v, F, ⟨n, us, G, hr, hF, ho⟩, hs => by
    subst hF
    exact ⟨n, us, G, ownsRow_same hr (fun k hk => hs k (List.mem_append_left _ hk)), rfl, Owns.same ps us G ho (fun k hk => hs k (List.mem_append_right _ hk))⟩
theorem Owns.same {w w' : World} : ∀ (ps : List PV) (us : List Value) (F : List Nat), Owns w ps us F → (∀ k ∈ F, w'.heap[k]? = w.heap[k]?) → Owns w' ps us F
  | [], _, _, h, _ => h
  | p :: ps, _, _, ⟨u, us', F1, F2, hu, hF, h1, h2⟩, hs => by
    subst hF
    exact ⟨u, us', F1, F2, hu, rfl, Own.same p u F1 h1 (fun k hk => hs k (List.mem_append_left _ hk)), Owns.same ps us' F2 h2 (fun k hk => hs k (List.mem_append_right _ hk))⟩
end

mutual
theorem Own.lt {w : World} : ∀ (p : PV) (v : Value) (F : List Nat), Own w p v F → ∀ k ∈ F, k < w.heap.size
  | .int _ _, _, _, h, k, hk => by rw [h.2] at hk; cases hk
  | .bool _, _, _, h, k, hk => by rw [h.2] at hk; cases hk
  | .str _, _, _, h, k, hk => by rw [h.2] at hk; cases hk
  | .sl _ _ ps, v, _, ⟨n, us, G, hr, hF, ho⟩, k, hk => by
    subst hF
    rcases List.mem_append.1 hk with hk | hk
    · exact (hr.lt k (by simpa using hk)).2
    · exact Owns.lt ps us G ho k hk
theorem Owns.lt {w : World} : ∀ (ps : List PV) (us : List Value) (F : List Nat), Owns w ps us F → ∀ k ∈ F, k < w.heap.size
  | [], _, _, h, k, hk => by rw [h.2] at hk; cases hk
  | p :: ps, _, _, ⟨u, us', F1, F2, hu, hF, h1, h2⟩, k, hk => by
    subst hF
    rcases List.mem_append.1 hk with hk | hk
    · exact Own.lt p u F1 h1 k hk
    · exact Owns.lt ps us' F2 h2 k hk
end

theorem Owns.length {w : World} : ∀ {ps : List PV} {us : List Value} {F : List Nat}, Owns w ps us F → us.length = ps.length
  | [], _, _, h => by rw [h.1]; rfl
  | p :: ps, _, _, ⟨u, us', F1, F2, hu, _, _, h2⟩ => by rw [hu]; simp [Owns.length h2]

theorem Owns.append {w : World} : ∀ {ps : List PV} {us : List Value} {F : List Nat} {qs : List PV} {vs : List Value} {G : List Nat}, Owns w ps us F → Owns w qs vs G → Owns w (ps ++ qs) (us ++ vs) (F ++ G)
  | [], _, _, qs, vs, G, h, h' => by rw [h.1, h.2]; exact h'
  | p :: ps, _, _, qs, vs, G, ⟨u, us', F1, F2, hu, hF, h1, h2⟩, h' => by
    rw [hu, hF]
    exact ⟨u, us' ++ vs, F1, F2 ++ G, rfl, by simp, h1, Owns.append h2 h'⟩

/-- One of them, and the rest: the one may be replaced. -/
theorem Owns.at {w : World} : ∀ {ps : List PV} {us : List Value} {F : List Nat} {j : Nat} {p : PV}, Owns w ps us F → ps[j]? = some p →
    ∃ u Fa F1 Fb, us[j]? = some u ∧ F = Fa ++ (F1 ++ Fb) ∧ Own w p u F1 ∧
      ∀ (w' : World) (p' : PV) (u' : Value) (F1' : List Nat), (∀ k ∈ Fa ++ Fb, w'.heap[k]? = w.heap[k]?) → Own w' p' u' F1' → Owns w' (ps.set j p') (us.set j u') (Fa ++ (F1' ++ Fb))
  | p :: ps, _, _, 0, q, ⟨u, us', F1, F2, hu, hF, h1, h2⟩, hj => by
    simp at hj
    subst hj hu hF
    refine ⟨u, [], F1, F2, rfl, rfl, h1, fun w' p' u' F1' hs ho => ?_⟩
    exact ⟨u', us', F1', F2, rfl, rfl, ho, Owns.same ps us' F2 h2 (fun k hk => hs k (by simpa using hk))⟩
  | p :: ps, _, _, j + 1, q, ⟨u, us', F1, F2, hu, hF, h1, h2⟩, hj => by
    simp at hj
    subst hu hF
    obtain ⟨v, Fa, G1, Fb, hv, hF2, ho, hset⟩ := Owns.at h2 hj
    subst hF2
    refine ⟨v, F1 ++ Fa, G1, Fb, by simpa using hv, by simp, ho, fun w' p' u' F1' hs ho' => ?_⟩
    refine ⟨u, us'.set j u', F1, Fa ++ (F1' ++ Fb), rfl, by simp, Own.same p u F1 h1 (fun k hk => hs k (by simp [hk])), hset w' p' u' F1' (fun k hk => hs k ?_) ho'⟩
    rcases List.mem_append.1 hk with hk | hk <;> simp [hk]

mutual
theorem Own.rep {w : World} {lo hi : Nat} : ∀ (p : PV) (v : Value) (F : List Nat), Own w p v F → (∀ k ∈ F, lo ≤ k ∧ k < hi) → Rep w lo hi p v
  | .int k n, _, _, h, _ => by rw [h.1]; exact .int k n
  | .bool b, _, _, h, _ => by rw [h.1]; exact .bool b
  | .str s, _, _, h, _ => by rw [h.1]; exact .str s
  | .sl e z ps, v, _, ⟨n, us, G, hr, hF, ho⟩, hs => by
    subst hF
    have hsub := Owns.rep ps us G ho (fun k hk => hs k (List.mem_append_right _ hk))
    have hl : us.length = ps.length := ho.length
    have hlen : ps.length = n * z := by rw [← hl]; exact hr.1
    rcases hr.2 with ⟨rfl, hn⟩ | ⟨g, cap, cur, rfl, hg, hh, hnc, hcm, hcs, ht⟩
    · subst hn
      exact .sl (fun _ => undef) hlen (Nat.le_refl _) (Nat.zero_le _) (fun _ => rfl) (fun h => absurd h (by omega)) (fun j p hj => by
        have : ps = [] := List.eq_nil_of_length_eq_zero (by simpa using hlen)
        rw [this] at hj; simp at hj)
    · refine .sl (fun j => us.getD j undef) hlen hnc hcm (fun h => by cases h) (fun _ => ⟨g, 0, rfl, (hs g (by simp [Value.ownBlock])).1, (hs g (by simp [Value.ownBlock])).2, fun j hj => ?_⟩) hsub
      have hju : j < us.length := by rw [hl]; exact hj
      have := hr.cells (g := g) rfl j us[j] (List.getElem?_eq_getElem hju)
      simp only [Addr.add_lit] at this
      rw [this]
      simp [hju]
theorem Owns.rep {w : World} {lo hi : Nat} : ∀ (ps : List PV) (us : List Value) (F : List Nat), Owns w ps us F → (∀ k ∈ F, lo ≤ k ∧ k < hi) → ∀ j p, ps[j]? = some p → Rep w lo hi p (us.getD j undef)
  | [], _, _, _, _, j, p, hj => by simp at hj
  | p :: ps, _, _, ⟨u, us', F1, F2, hu, hF, h1, h2⟩, hs, j, q, hj => by
    subst hu hF
    cases j with
    | zero => simp at hj; subst hj; exact Own.rep p u F1 h1 (fun k hk => hs k (List.mem_append_left _ hk))
    | succ j => simp at hj; simpa using Owns.rep ps us' F2 h2 (fun k hk => hs k (List.mem_append_right _ hk)) j q hj
end

/-- The value is the data, in blocks of its own, no two the same, all in lo .. hi - 1. -/
def Fresh (w : World) (lo hi : Nat) (p : PV) (v : Value) : Prop := ∃ F, Own w p v F ∧ F.Nodup ∧ ∀ k ∈ F, lo ≤ k ∧ k < hi

section
variable {w w' : World} {lo hi lo' hi' B : Nat} {p : PV} {v : Value}
theorem Fresh.rep (h : Fresh w lo hi p v) : Rep w lo hi p v := let ⟨_, ho, _, hk⟩ := h; Own.rep _ _ _ ho hk
theorem Fresh.same (h : Fresh w lo hi p v) (hs : Same lo hi w w') : Fresh w' lo hi p v :=
  let ⟨F, ho, hn, hk⟩ := h; ⟨F, Own.same _ _ _ ho (fun k m => hs k (hk k m).1 (hk k m).2), hn, hk⟩
theorem Fresh.mono (h : Fresh w lo hi p v) (hl : lo' ≤ lo) (hh : hi ≤ hi') : Fresh w lo' hi' p v :=
  let ⟨F, ho, hn, hk⟩ := h; ⟨F, ho, hn, fun k m => ⟨by have := (hk k m).1; omega, by have := (hk k m).2; omega⟩⟩
theorem Fresh.keep (h : Fresh w lo hi p v) (hb : Below B w w') (hh : hi ≤ B) : Fresh w' lo hi p v := h.same (.of_below hb hh)
theorem Fresh.drewN (h : Fresh w lo hi p v) (n : Nat) : Fresh (w.drewN n) lo hi p v := h.same (.drewN w n)
theorem Fresh.nil (w : World) (lo hi e z : Nat) : Fresh w lo hi (.sl e z []) (.slice none 0 0) := ⟨[], ⟨0, [], [], World.ownsRow_nil w 0 e z, rfl, rfl, rfl⟩, .nil, fun _ h => by cases h⟩
theorem Fresh.shape {e z : Nat} {ps : List PV} (h : Fresh w lo hi (.sl e z ps) v) : ∃ A n c, v = .slice A n c ∧ ps.length = n * z := by
  obtain ⟨F, ⟨n, us, G, hr, _, ho⟩, _⟩ := h
  rcases hr.2 with ⟨rfl, rfl⟩ | ⟨g, cap, cur, rfl, _⟩
  · exact ⟨none, 0, 0, rfl, by rw [← ho.length, hr.1]⟩
  · exact ⟨_, n, cap, rfl, by rw [← ho.length, hr.1]⟩
end

theorem take_set1 {α : Type} {us : List α} {i : Nat} (h : i < us.length) (v : α) : (us.set i v).take (i + 1) = us.take i ++ [v] := by
  rw [List.take_add_one, List.take_set_of_le (Nat.le_refl _), List.getElem?_set_self h]; rfl

/-- The same of a list of values. -/
def FreshL (w : World) (lo hi : Nat) (ps : List PV) (us : List Value) : Prop := ∃ F, Owns w ps us F ∧ F.Nodup ∧ ∀ k ∈ F, lo ≤ k ∧ k < hi
section
variable {w w' : World} {lo mid hi lo' hi' : Nat} {p : PV} {v : Value} {ps qs : List PV} {us vs : List Value}
theorem FreshL.nil (w : World) (lo hi : Nat) : FreshL w lo hi [] [] := ⟨[], ⟨rfl, rfl⟩, .nil, fun _ h => by cases h⟩
theorem FreshL.same (h : FreshL w lo hi ps us) (hs : Same lo hi w w') : FreshL w' lo hi ps us :=
  let ⟨F, ho, hn, hk⟩ := h; ⟨F, Owns.same _ _ _ ho (fun k m => hs k (hk k m).1 (hk k m).2), hn, hk⟩
theorem FreshL.mono (h : FreshL w lo hi ps us) (hl : lo' ≤ lo) (hh : hi ≤ hi') : FreshL w lo' hi' ps us :=
  let ⟨F, ho, hn, hk⟩ := h; ⟨F, ho, hn, fun k m => ⟨by have := (hk k m).1; omega, by have := (hk k m).2; omega⟩⟩
theorem FreshL.append (h : FreshL w lo mid ps us) (h' : FreshL w mid hi qs vs) (hl : lo ≤ mid) (hh : mid ≤ hi) : FreshL w lo hi (ps ++ qs) (us ++ vs) := by
  obtain ⟨F, ho, hn, hk⟩ := h
  obtain ⟨G, ho', hn', hk'⟩ := h'
  refine ⟨F ++ G, ho.append ho', List.nodup_append.2 ⟨hn, hn', fun a ha b hb e => ?_⟩, fun k m => ?_⟩
  · have := hk a ha; have := hk' b hb; omega
  · rcases List.mem_append.1 m with m | m
    · have := hk k m; omega
    · have := hk' k m; omega
theorem Fresh.one (h : Fresh w lo hi p v) : FreshL w lo hi [p] [v] := by
  obtain ⟨F, ho, hn, hk⟩ := h
  exact ⟨F, ⟨v, [], F, [], rfl, by simp, ho, rfl, rfl⟩, hn, hk⟩
theorem FreshL.cons (h : Fresh w lo mid p v) (h' : FreshL w mid hi ps us) (hl : lo ≤ mid) (hh : mid ≤ hi) : FreshL w lo hi (p :: ps) (v :: us) := h.one.append h' hl hh
theorem FreshL.plain (hp : Own w p v []) (h : FreshL w lo hi ps us) : FreshL w lo hi (p :: ps) (v :: us) := by
  obtain ⟨F, ho, hn, hk⟩ := h
  exact ⟨F, ⟨v, us, [], F, rfl, rfl, hp, ho⟩, hn, hk⟩
/-- A row of the call's own, and what its cells own. -/
theorem Fresh.row {e z n : Nat} (h : w.ownsRow lo e z v n us) (hl : FreshL w lo hi ps us) (hne : ∀ F, Owns w ps us F → ∀ k ∈ F, v.ownBlock ≠ some k) (hh : w.heap.size ≤ hi) : Fresh w lo hi (.sl e z ps) v := by
  obtain ⟨F, ho, hn, hk⟩ := hl
  refine ⟨v.ownBlock.toList ++ F, ⟨n, us, F, ⟨h.1, ?_⟩, rfl, ho⟩, List.nodup_append.2 ⟨by cases v.ownBlock <;> simp, hn, fun a ha b hb e => ?_⟩, fun k m => ?_⟩
  · rcases h.2 with h2 | ⟨g, cap, cur, r⟩
    · exact .inl h2
    · exact .inr ⟨g, cap, cur, r.1, Nat.zero_le _, r.2.2⟩
  · subst e
    exact hne F ho a hb (by simpa using ha)
  · rcases List.mem_append.1 m with m | m
    · have := h.lt k (by simpa using m); omega
    · exact hk k m
/-- If what the cells own lies above the row's block. -/
theorem Fresh.row_above {e z n : Nat} (h : w.ownsRow lo e z v n us) (hl : FreshL w mid hi ps us) (hb : ∀ g, v.ownBlock = some g → g < mid) (hm : lo ≤ mid) (hh : w.heap.size ≤ hi) : Fresh w lo hi (.sl e z ps) v := by
  obtain ⟨F, ho, hn, hk⟩ := hl
  refine ⟨v.ownBlock.toList ++ F, ⟨n, us, F, ⟨h.1, ?_⟩, rfl, ho⟩, List.nodup_append.2 ⟨by cases v.ownBlock <;> simp, hn, fun a ha b hb' e => ?_⟩, fun k m => ?_⟩
  · rcases h.2 with h2 | ⟨g, cap, cur, r⟩
    · exact .inl h2
    · exact .inr ⟨g, cap, cur, r.1, Nat.zero_le _, r.2.2⟩
  · subst e
    have := hb a (by simpa using ha)
    have := hk a hb'
    omega
  · rcases List.mem_append.1 m with m | m
    · have := h.lt k (by simpa using m); omega
    · have := hk k m; omega
end
end Go.Proofs.YteofafgleojmhaaDoor
