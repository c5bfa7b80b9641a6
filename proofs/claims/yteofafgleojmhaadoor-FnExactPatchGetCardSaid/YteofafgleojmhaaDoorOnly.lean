/- Words for a function that changes cells of a value that owns its blocks: only these blocks change. And one row of the call's own to which a fresh element is appended. Over any program. -/
import Derived.Test.YteofafgleojmhaaDoorData
import Derived.Test.YteofafgleojmhaaDoorAppend
namespace Go.Proofs.YteofafgleojmhaaDoor
open Go.RowKit

/-- Only the blocks F have changed. -/
structure Only (F : List Nat) (w w' : World) : Prop where
  os : w'.os = w.os
  tape : w'.tape = w.tape
  output : w'.output = w.output
  size : w.heap.size ≤ w'.heap.size
  block : ∀ k, k < w.heap.size → k ∉ F → w'.heap[k]? = w.heap[k]?

section
variable {w w' w'' : World} {F G : List Nat} {B lo hi : Nat}
theorem Only.refl (F : List Nat) (w : World) : Only F w w := ⟨rfl, rfl, rfl, Nat.le_refl _, fun _ _ _ => rfl⟩
theorem Only.trans (h : Only F w w') (h' : Only F w' w'') : Only F w w'' :=
  ⟨h'.os.trans h.os, h'.tape.trans h.tape, h'.output.trans h.output, Nat.le_trans h.size h'.size, fun k hk hn => (h'.block k (Nat.lt_of_lt_of_le hk h.size) hn).trans (h.block k hk hn)⟩
theorem Only.mono (h : Only F w w') (hF : ∀ k ∈ F, k ∈ G) : Only G w w' := ⟨h.os, h.tape, h.output, h.size, fun k hk hn => h.block k hk (fun m => hn (hF k m))⟩
theorem Only.of_below (h : Below w.heap.size w w') : Only F w w' := ⟨h.os, h.tape, h.output, h.size, fun k hk _ => h.block k hk⟩
theorem Only.drewN (h : Only F w w') (n : Nat) : Only F w (w'.drewN n) := ⟨h.os, h.tape, h.output, h.size, h.block⟩
theorem Only.setCell (h : Only F w w') {p : Addr} (hp : p.block ∈ F) (u : Value) : Only F w (w'.setCell p u) :=
  ⟨h.os, h.tape, h.output, by simpa using h.size, fun k hk hn => (Below.heap_setCell w' p u k (fun e => hn (e ▸ hp))).trans (h.block k hk hn)⟩
theorem Only.below (h : Only F w w') (hF : ∀ k ∈ F, B ≤ k) (hB : B ≤ w.heap.size) : Below B w w' :=
  ⟨h.os, h.tape, h.output, h.size, fun k hk => h.block k (by omega) (fun m => by have := hF k m; omega)⟩
theorem Only.same (h : Only F w w') (hF : ∀ k ∈ F, k < lo ∨ hi ≤ k) (hh : hi ≤ w.heap.size) : Same lo hi w w' :=
  fun k h1 h2 => h.block k (by omega) (fun m => by have := hF k m; omega)
theorem Only.keeps (h : Only F w w') (hG : ∀ k ∈ G, k < w.heap.size ∧ k ∉ F) : ∀ k ∈ G, w'.heap[k]? = w.heap[k]? := fun k m => h.block k (hG k m).1 (hG k m).2
end

theorem nodup_mid {Fa F1 Fb : List Nat} (h : (Fa ++ (F1 ++ Fb)).Nodup) : F1.Nodup ∧ ∀ k ∈ Fa ++ Fb, k ∉ F1 := by
  rw [List.nodup_append] at h
  obtain ⟨h1, h2, h3⟩ := h
  rw [List.nodup_append] at h2
  refine ⟨h2.1, fun k hk hm => ?_⟩
  rcases List.mem_append.1 hk with hk | hk
  · exact h3 k hk k (List.mem_append_left _ hm) rfl
  · exact h2.2.2 k hm k hk rfl

/-- One element of a row, itself a value with blocks of its own, has changed in its blocks. -/
theorem Owns.changed {w w' : World} {ps : List PV} {us : List Value} {Fa F1 Fb : List Nat} {j : Nat} {p' : PV} {u : Value} (hu : us[j]? = some u) (hlt : ∀ k ∈ Fa ++ (F1 ++ Fb), k < w.heap.size)
    (hnd : (Fa ++ (F1 ++ Fb)).Nodup) (ho : Only F1 w w') (h' : Own w' p' u F1)
    (hset : ∀ (w' : World) (p' : PV) (u' : Value) (F1' : List Nat), (∀ k ∈ Fa ++ Fb, w'.heap[k]? = w.heap[k]?) → Own w' p' u' F1' → Owns w' (ps.set j p') (us.set j u') (Fa ++ (F1' ++ Fb))) :
    Owns w' (ps.set j p') us (Fa ++ (F1 ++ Fb)) := by
  have := hset w' p' u F1 (ho.keeps fun k hk => ⟨hlt k (by rcases List.mem_append.1 hk with m | m <;> simp [m]), (nodup_mid hnd).2 k hk⟩) h'
  rwa [show us.set j u = us from by
    obtain ⟨hj, e⟩ := List.getElem?_eq_some_iff.1 hu
    rw [← e]; exact List.set_getElem_self hj] at this

/-- A row that the value owns, and a cell that owns nothing stored into it. -/
theorem Owns.plain_set {w w' : World} {ps : List PV} {us : List Value} {G : List Nat} {j : Nat} {p : PV} {u' : Value} {p' : PV} (h : Owns w ps us G) (hp : ps[j]? = some p) (hn : ∀ (w : World) (u : Value) (F : List Nat), Own w p u F → F = [])
    (hk : ∀ k ∈ G, w'.heap[k]? = w.heap[k]?) (hp' : ∀ w : World, Own w p' u' []) : Owns w' (ps.set j p') (us.set j u') G := by
  obtain ⟨u, Fa, F1, Fb, hu, hF, ho, hset⟩ := Owns.at h hp
  obtain rfl := hn _ _ _ ho
  subst hF
  have := hset w' p' u' [] (fun k m => hk k (by rcases List.mem_append.1 m with m | m <;> simp [m])) (hp' w')
  simpa using this

def setAll {α : Type} (l : List α) (o : Nat) : List α → List α
  | [] => l
  | p :: ps => setAll (l.set o p) (o + 1) ps
theorem setAll_cons {α : Type} (x : α) : ∀ (ps l : List α) (o : Nat), setAll (x :: l) (o + 1) ps = x :: setAll l o ps
  | [], _, _ => rfl
  | p :: ps, l, o => by
    show setAll ((x :: l).set (o + 1) p) (o + 1 + 1) ps = x :: setAll (l.set o p) (o + 1) ps
    rw [List.set_cons_succ, setAll_cons x ps]
theorem setAll_app {α : Type} : ∀ (as l : List α) (o : Nat) (ps : List α), setAll (as ++ l) (as.length + o) ps = as ++ setAll l o ps
  | [], l, o, ps => by simp
  | a :: as, l, o, ps => by
    rw [List.cons_append, List.length_cons, show as.length + 1 + o = as.length + o + 1 by omega, setAll_cons, setAll_app as]; rfl
theorem setAll_here {α : Type} : ∀ (ps as l : List α), as.length = ps.length → setAll (as ++ l) 0 ps = ps ++ l
  | [], as, l, h => by
    have : as = [] := List.eq_nil_of_length_eq_zero (by simpa using h)
    subst this; rfl
  | p :: ps, [], l, h => by simp at h
  | p :: ps, a :: as, l, h => by
    show setAll ((a :: (as ++ l)).set 0 p) (0 + 1) ps = _
    rw [List.set_cons_zero, setAll_cons, setAll_here ps as l (by simpa using h)]; rfl
/-- The cells of a row of structs, one struct replaced. -/
theorem flatMap_set {α β : Type} {f : α → List β} {z : Nat} (hf : ∀ x, (f x).length = z) (y : α) : ∀ (ys : List α) (i : Nat), i < ys.length → (ys.set i y).flatMap f = setAll (ys.flatMap f) (i * z) (f y)
  | [], i, h => by simp at h
  | x :: ys, 0, _ => by
    simp only [List.set_cons_zero, List.flatMap_cons, Nat.zero_mul]
    rw [setAll_here _ _ _ (by rw [hf, hf])]
  | x :: ys, i + 1, h => by
    simp only [List.set_cons_succ, List.flatMap_cons]
    rw [flatMap_set hf y ys i (by simpa using h), show (i + 1) * z = (f x).length + i * z by rw [hf, Nat.add_mul]; omega, setAll_app]

theorem flatMap_set_one {α β : Type} {f : α → List β} {z : Nat} (hf : ∀ x, (f x).length = z) {y' : α} {j : Nat} {p : β} : ∀ (ys : List α) (i : Nat) (y : α), ys[i]? = some y → j < z → f y' = (f y).set j p → (ys.flatMap f).set (i * z + j) p = (ys.set i y').flatMap f
  | [], i, y, h, _, _ => by simp at h
  | x :: xs, 0, y, h, hj, hy => by
    simp at h
    subst h
    simp only [List.flatMap_cons, List.set_cons_zero, Nat.zero_mul, Nat.zero_add, hy]
    rw [List.set_append_left _ _ (by rw [hf]; exact hj)]
  | x :: xs, i + 1, y, h, hj, hy => by
    simp only [List.getElem?_cons_succ] at h
    have ih := flatMap_set_one hf xs i y h hj hy
    simp only [List.flatMap_cons, List.set_cons_succ]
    rw [List.set_append_right _ _ (by rw [hf, Nat.add_mul]; omega), hf, show (i + 1) * z + j - z = i * z + j by rw [Nat.add_mul]; omega, ih]
/-- A value that owns its blocks, taken apart. -/
theorem Fresh.parts {w : World} {lo hi e z : Nat} {ps : List PV} {v : Value} (h : Fresh w lo hi (.sl e z ps) v) :
    ∃ n us G, w.ownsRow lo e z v n us ∧ Owns w ps us G ∧ (v.ownBlock.toList ++ G).Nodup ∧ ∀ k ∈ v.ownBlock.toList ++ G, lo ≤ k ∧ k < hi := by
  obtain ⟨F, ⟨n, us, G, hr, hF, ho⟩, hn, hk⟩ := h
  subst hF
  refine ⟨n, us, G, ⟨hr.1, ?_⟩, ho, hn, hk⟩
  rcases hr.2 with h2 | ⟨g, cap, cur, rfl, _, r⟩
  · exact .inl h2
  · exact .inr ⟨g, cap, cur, rfl, (hk g (by simp [Value.ownBlock])).1, r⟩

theorem Fresh.row_of {w : World} {lo hi e z n c : Nat} {A : Option Addr} {ps : List PV} (h : Fresh w lo hi (.sl e z ps) (.slice A n c)) :
    ∃ us G, w.ownsRow lo e z (.slice A n c) n us ∧ Owns w ps us G ∧ ((Value.slice A n c).ownBlock.toList ++ G).Nodup ∧ ∀ k ∈ (Value.slice A n c).ownBlock.toList ++ G, lo ≤ k ∧ k < hi := by
  obtain ⟨n', us, G, hr, r⟩ := h.parts
  have e : n' = n := by
    rcases hr.2 with ⟨e1, e2⟩ | ⟨g, cap, cur, e1, _⟩
    · cases e1; exact e2
    · cases e1; rfl
  subst e
  exact ⟨us, G, hr, r⟩

/-- The row has grown by cells whose blocks are fresh. -/
theorem Fresh.grew {w w' : World} {lo m1 m2 e z n' : Nat} {ps qs : List PV} {us news : List Value} {v v' : Value} {G : List Nat} (ho : Owns w ps us G) (hnd : (v.ownBlock.toList ++ G).Nodup)
    (hb : ∀ k ∈ v.ownBlock.toList ++ G, lo ≤ k ∧ k < m1) (hnew : FreshL w m1 m2 qs news) (h' : w'.ownsRow lo e z v' n' (us ++ news)) (hg : w.grownBy w' v.ownBlock)
    (hblk : v'.ownBlock = v.ownBlock ∨ v'.ownBlock = some w.heap.size) (h1 : m1 ≤ m2) (h2 : m2 ≤ w.heap.size) (h0 : lo ≤ m1) : Fresh w' lo w'.heap.size (.sl e z (ps ++ qs)) v' := by
  obtain ⟨F', ho', hn', hk'⟩ := hnew
  have hG : ∀ k ∈ G, lo ≤ k ∧ k < m1 ∧ v.ownBlock ≠ some k := fun k hk => by
    have := hb k (List.mem_append_right _ hk)
    refine ⟨this.1, this.2, fun e => ?_⟩
    exact (List.nodup_append.1 hnd).2.2 k (by simp [e]) k hk rfl
  have hF' : ∀ k ∈ F', m1 ≤ k ∧ k < m2 ∧ v.ownBlock ≠ some k := fun k hk => by
    have := hk' k hk
    refine ⟨this.1, this.2, fun e => ?_⟩
    have := (hb k (List.mem_append_left _ (by simp [e]))).2
    omega
  have hsz := hg.size
  have hall : Owns w' (ps ++ qs) (us ++ news) (G ++ F') :=
    (Owns.same _ _ _ ho fun k hk => hg.block k (by have := hG k hk; omega) (fun e => (hG k hk).2.2 e.symm)).append (Owns.same _ _ _ ho' fun k hk => hg.block k (by have := hF' k hk; omega) (fun e => (hF' k hk).2.2 e.symm))
  refine ⟨v'.ownBlock.toList ++ (G ++ F'), ⟨n', us ++ news, G ++ F', ⟨h'.1, ?_⟩, rfl, hall⟩, List.nodup_append.2 ⟨by cases v'.ownBlock <;> simp, List.nodup_append.2 ⟨(List.nodup_append.1 hnd).2.1, hn', fun a ha b hb' e => ?_⟩, fun a ha b hb' e => ?_⟩, fun k m => ?_⟩
  · rcases h'.2 with h2 | ⟨g, cap, cur, r⟩
    · exact .inl h2
    · exact .inr ⟨g, cap, cur, r.1, Nat.zero_le _, r.2.2⟩
  · have := hG a ha; have := hF' b hb'; omega
  · subst e
    have ha' : v'.ownBlock = some a := by simpa using ha
    rcases List.mem_append.1 hb' with m | m
    · rcases hblk with e | e
      · exact (hG a m).2.2 (e ▸ ha')
      · rw [e] at ha'; have := hG a m; simp at ha'; omega
    · rcases hblk with e | e
      · exact (hF' a m).2.2 (e ▸ ha')
      · rw [e] at ha'; have := hF' a m; simp at ha'; omega
  · rcases List.mem_append.1 m with m | m
    · exact h'.lt k (by simpa using m)
    rcases List.mem_append.1 m with m | m
    · have := hG k m; omega
    · have := hF' k m; omega

theorem Owns.plain {w : World} : ∀ {ps : List PV} {us : List Value}, (∀ p ∈ ps, ∀ (w w' : World) (u : Value) (F : List Nat), Own w p u F → F = [] ∧ Own w' p u []) → ∀ {F : List Nat}, Owns w ps us F → F = []
  | [], _, _, _, h => h.2
  | p :: ps, _, hp, _, ⟨u, us', F1, F2, hu, hF, h1, h2⟩ => by
    subst hF
    rw [(hp p (by simp) w w u F1 h1).1, Owns.plain (fun q hq => hp q (by simp [hq])) h2]; rfl
end Go.Proofs.YteofafgleojmhaaDoor
