/- Several of my texts in one: TreeDrop, SetPlain. -/
import Derived.Test.YtmickenajhppoaaGreatDoorZ25
import Derived.Test.YtmickenajhppoaaGreatDoorZ10
import Derived.Test.YtmickenajhppoaaGreatDoorZ27
/- Walks: the program's isAt; a tree without what is at a path, and the paths at it: TreeDrop, TreeUnder, the program's and the reference's. -/
namespace Go.Proofs.YtmickenajhppoaaGreatDoor
open Go.RowKit

/-- Is a file of the path f at the path p, or below it? -/
def atOr (f p : Str) : Bool := decide (f = p) || below p f


/-- Of the first k files some are taken; what they own is among what those own. -/
def Taken (w : World) (xs done : List PFile) (us : List Value) (G : List Nat) (k : Nat) (us' : List Value) : Prop :=
  ∃ us1 us2 G1 G2 G', us = us1 ++ us2 ∧ G = G1 ++ G2 ∧ us1.length = k * 2 ∧ Owns w ((xs.drop k).flatMap cFiles) us2 G2 ∧ G'.Sublist G1 ∧ Owns w (done.flatMap cFiles) us' G'
theorem Taken.start {w : World} {xs : List PFile} {us : List Value} {G : List Nat} (h : Owns w (xs.flatMap cFiles) us G) : Taken w xs [] us G 0 [] :=
  ⟨[], us, [], G, [], rfl, rfl, rfl, by simpa using h, List.Sublist.refl _, ⟨rfl, rfl⟩⟩
theorem Taken.open_ {w : World} {xs done : List PFile} {us us' : List Value} {G : List Nat} {k : Nat} {x : PFile} (h : Taken w xs done us G k us') (hx : xs[k]? = some x) :
    ∃ A n c, us[k * 2]? = some (.string ⟨x.path.toArray⟩) ∧ us[k * 2 + 1]? = some (.slice A n c) ∧ Taken w xs done us G (k + 1) us' ∧ Taken w xs (done ++ [x]) us G (k + 1) (us' ++ [.string ⟨x.path.toArray⟩, .slice A n c]) := by
  obtain ⟨us1, us2, G1, G2, G', rfl, rfl, hl, ho, hs, hd⟩ := h
  have hk := (List.getElem?_eq_some_iff.1 hx).1
  have hdrop : xs.drop k = x :: xs.drop (k + 1) := by
    rw [List.drop_eq_getElem_cons hk]
    rw [List.getElem?_eq_getElem hk] at hx
    rw [Option.some.inj hx]
  rw [hdrop] at ho
  obtain ⟨u0, v1, F0, H1, e1, e2, h0, u1, v2, F1, H2, e3, e4, h1, ho2⟩ := ho
  obtain ⟨rfl, rfl⟩ := h0
  obtain ⟨A, n, c, rfl⟩ := Own.shape h1
  subst e3 e4 e1 e2
  refine ⟨A, n, c, ?_, ?_, ⟨us1 ++ [.string ⟨x.path.toArray⟩, .slice A n c], v2, G1 ++ F1, H2, G', by simp, by simp, by simp [hl]; omega, ho2, hs.trans (List.sublist_append_left _ _), hd⟩,
    ⟨us1 ++ [.string ⟨x.path.toArray⟩, .slice A n c], v2, G1 ++ F1, H2, G' ++ F1, by simp, by simp, by simp [hl]; omega, ho2, hs.append (List.Sublist.refl _), ?_⟩⟩
  · rw [List.getElem?_append_right (by omega), show k * 2 - us1.length = 0 by omega]; rfl
  · rw [List.getElem?_append_right (by omega), show k * 2 + 1 - us1.length = 1 by omega]; rfl
  · rw [List.flatMap_append]
    exact hd.append ⟨_, _, [], F1, rfl, rfl, ⟨rfl, rfl⟩, _, [], F1, [], rfl, by simp, h1, rfl, rfl⟩
/-- Two cells of a row of the call's own. -/
theorem own_two {w : World} {lo e n k c : Nat} {A : Option Addr} {us : List Value} {u0 u1 : Value} (h : w.ownsRow lo e 2 (.slice A n c) n us) (h0 : us[k * 2]? = some u0) (h1 : us[k * 2 + 1]? = some u1) :
    ∃ g, A = some ⟨g, 0, none⟩ ∧ lo ≤ g ∧ g < w.heap.size ∧ w.cell? ⟨g, k * 2, none⟩ = some u0 ∧ w.cell? ⟨g, k * 2 + 1, none⟩ = some u1 := by
  have hl := h.1
  have hk := (List.getElem?_eq_some_iff.1 h1).1
  rcases h.2 with ⟨e1, e2⟩ | ⟨g, cap, cur, e1, hg, _⟩
  · subst e2; omega
  · cases e1
    have c0 := h.cells (g := g) rfl _ _ h0
    have c1 := h.cells (g := g) rfl _ _ h1
    simp only [Addr.add_lit, Nat.zero_add] at c0 c1
    exact ⟨g, rfl, hg, (h.lt g rfl).2, c0, c1⟩
/-- What is taken, in a row of the call's own. -/
theorem Taken.fresh {w w' : World} {xs done : List PFile} {us us' : List Value} {G : List Nat} {k lo n : Nat} {v : Value} (h : Taken w xs done us G k us') (hnd : G.Nodup) (hG : ∀ q ∈ G, lo ≤ q ∧ q < w.heap.size)
    (hrow : w'.ownsRow w.heap.size 48 2 v n us') (hb : Below w.heap.size w w') (hlo : lo ≤ w.heap.size) : Fresh w' lo w'.heap.size (encFiles done) v := by
  obtain ⟨us1, us2, G1, G2, G', e1, e2, hl, ho, hs, hd⟩ := h
  have hsub : ∀ q ∈ G', q ∈ G := fun q hq => by rw [e2]; exact List.mem_append_left _ (hs.subset hq)
  have hlt : ∀ q ∈ G', lo ≤ q ∧ q < w.heap.size := fun q hq => hG q (hsub q hq)
  have hnd' : G'.Nodup := (List.nodup_append.1 (e2 ▸ hnd)).1.sublist hs
  have hd' := Owns.same _ _ _ hd (w' := w') (fun q hq => hb.block q (hlt q hq).2)
  refine Fresh.row_above' hrow ⟨G', hd', hnd', hlt⟩ hlo hb.size

def treeDrop (t : List PFile) (p : Str) : List PFile := if treeOk t then t.filter (fun f => !atOr f.path p) else []
def treeUnder (t : List PFile) (p : Str) : List Str := if treeOk t then (t.filter (fun f => atOr f.path p)).map PFile.path else []
theorem filter_next {α : Type} {q : α → Bool} {xs : List α} {k : Nat} {x : α} (hx : xs[k]? = some x) : (xs.take (k + 1)).filter q = (xs.take k).filter q ++ (if q x then [x] else []) := by
  rw [List.take_add_one, hx, List.filter_append]
  congr 1
  cases hq : q x <;> simp [hq]
theorem filter_len_take {α : Type} (q : α → Bool) (xs : List α) (k : Nat) : ((xs.take k).filter q).length ≤ k := Nat.le_trans (List.length_filter_le _ _) (List.length_take_le _ _)

end Go.Proofs.YtmickenajhppoaaGreatDoor

/- Plain: a tree with one file put at its place; what is moved in a tree. -/
namespace Go.Proofs.YtmickenajhppoaaGreatDoor
open Go.RowKit

/-- A tree with a file, another one of its path being gone. -/
def setF : List PFile → PFile → List PFile
  | [], f => [f]
  | x :: t, f => if ltS x.path f.path then x :: setF t f else f :: (x :: t).filter (fun y => !decide (y.path = f.path))
def hasF (t : List PFile) (p : Str) : Bool := t.any (fun x => decide (x.path = p))
def ascT (t : List PFile) : Prop := t.Pairwise (fun a b => ltS a.path b.path = true)

theorem ascT_of {t : List PFile} (h : treeOk t = true) : ascT t := by
  obtain ⟨_, h2⟩ := treeOk_iff.1 h
  refine List.pairwise_iff_getElem.2 fun i j hi hj hij => ?_
  exact asc_of (t := t) (m := t.length) (fun k hk => .inl (h2 k hk)) i j _ _ hij hj (List.getElem?_eq_getElem hi) (List.getElem?_eq_getElem hj)

theorem setF_mem {t : List PFile} {f x : PFile} (h : x ∈ setF t f) : x = f ∨ x ∈ t := by
  induction t with
  | nil => simp [setF] at h; exact .inl h
  | cons y t ih =>
    unfold setF at h
    split at h
    · rcases List.mem_cons.1 h with e | m
      · exact .inr (by rw [e]; exact List.mem_cons_self)
      · rcases ih m with e | m
        · exact .inl e
        · exact .inr (List.mem_cons_of_mem _ m)
    · rcases List.mem_cons.1 h with e | m
      · exact .inl e
      · exact .inr (List.mem_filter.1 m).1

/-- Where all is less up to k, and nothing from k on. -/
theorem setF_split : ∀ (a b : List PFile) (f : PFile), (∀ x ∈ a, ltS x.path f.path = true) → (∀ x ∈ b, ltS x.path f.path = false) → setF (a ++ b) f = a ++ f :: b.filter (fun y => !decide (y.path = f.path))
  | [], [], f, _, _ => by simp [setF]
  | [], x :: b, f, _, hb => by
    have := hb x List.mem_cons_self
    simp only [List.nil_append]
    unfold setF
    rw [this]
    simp
  | x :: a, b, f, ha, hb => by
    have hx := ha x List.mem_cons_self
    have ih := setF_split a b f (fun y hy => ha y (List.mem_cons_of_mem _ hy)) hb
    simp only [List.cons_append]
    unfold setF
    rw [hx, if_pos rfl, ih]
theorem filter_ne_of_gt : ∀ (b : List PFile) (p : Str), (∀ x ∈ b, ltS p x.path = true) → b.filter (fun y => !decide (y.path = p)) = b := fun b p h => by
  refine List.filter_eq_self.2 fun x hx => ?_
  have := h x hx
  simp
  rintro e
  rw [e, ltS_irrefl] at this
  cases this
theorem hasF_lt {a : List PFile} {p : Str} (h : ∀ x ∈ a, ltS x.path p = true) : hasF a p = false := by
  unfold hasF
  refine List.any_eq_false.2 fun x hx => ?_
  have := h x hx
  simp
  rintro e
  rw [e, ltS_irrefl] at this
  cases this
theorem hasF_gt {a : List PFile} {p : Str} (h : ∀ x ∈ a, ltS p x.path = true) : hasF a p = false := by
  unfold hasF
  refine List.any_eq_false.2 fun x hx => ?_
  have := h x hx
  simp
  rintro e
  rw [e, ltS_irrefl] at this
  cases this
theorem hasF_append (a b : List PFile) (p : Str) : hasF (a ++ b) p = (hasF a p || hasF b p) := by unfold hasF; rw [List.any_append]

theorem asc_take_drop {t : List PFile} {k : Nat} {p : Str} (h : ascT t) (hk : k ≤ t.length) (h0 : 0 < k → ∀ x, t[k - 1]? = some x → ltS x.path p = true) : ∀ x ∈ t.take k, ltS x.path p = true := by
  intro x hx
  obtain ⟨j, hj⟩ := List.getElem?_of_mem hx
  have hjl := (List.getElem?_eq_some_iff.1 hj).1
  rw [List.length_take] at hjl
  rw [List.getElem?_take, if_pos (by omega)] at hj
  have hl := List.getElem?_eq_getElem (l := t) (i := k - 1) (by omega)
  have hlt := h0 (by omega) _ hl
  by_cases e : j = k - 1
  · subst e
    rw [hl] at hj
    exact (Option.some.inj hj) ▸ hlt
  · have := List.pairwise_iff_getElem.1 h j (k - 1) (by omega) (by omega) (by omega)
    rw [List.getElem?_eq_getElem (by omega)] at hj
    rw [← Option.some.inj hj]
    exact ltS_trans this hlt

/-- The program's place: k is the first place from which nothing is less. -/
theorem setF_here {t : List PFile} {k : Nat} {f g : PFile} (h : ascT t) (h1 : ∀ x ∈ t.take k, ltS x.path f.path = true) (hg : t[k]? = some g) (he : g.path = f.path) :
    setF t f = t.take k ++ f :: t.drop (k + 1) ∧ hasF t f.path = true := by
  have hk := (List.getElem?_eq_some_iff.1 hg).1
  have hd : t.drop k = g :: t.drop (k + 1) := by
    rw [List.drop_eq_getElem_cons hk]
    rw [List.getElem?_eq_getElem hk] at hg
    rw [Option.some.inj hg]
  have hp : ∀ x ∈ t.drop (k + 1), ltS f.path x.path = true := by
    have h2 : (t.drop k).Pairwise (fun a b => ltS a.path b.path = true) := List.Pairwise.sublist (List.drop_sublist _ _) h
    rw [hd] at h2
    intro x hx
    rw [← he]
    exact (List.pairwise_cons.1 h2).1 x hx
  refine ⟨?_, ?_⟩
  · have := setF_split (t.take k) (t.drop k) f h1 (by
      rw [hd]
      intro x hx
      rcases List.mem_cons.1 hx with e | m
      · rw [e, he, ltS_irrefl]
      · exact ltS_asymm (hp x m))
    rw [List.take_append_drop] at this
    rw [this, hd]
    congr 2
    rw [List.filter_cons]
    simp only [he, decide_true, Bool.not_true, Bool.false_eq_true, if_false]
    exact filter_ne_of_gt _ _ hp
  · unfold hasF
    exact List.any_eq_true.2 ⟨g, List.mem_of_getElem? hg, by simp [he]⟩
theorem setF_new {t : List PFile} {k : Nat} {f : PFile} (h : ascT t) (h1 : ∀ x ∈ t.take k, ltS x.path f.path = true) (h2 : ∀ x, t[k]? = some x → ltS f.path x.path = true) :
    setF t f = t.take k ++ f :: t.drop k ∧ hasF t f.path = false := by
  have hp : ∀ x ∈ t.drop k, ltS f.path x.path = true := by
    by_cases hk : k < t.length
    · have hd := List.drop_eq_getElem_cons hk
      have hx := h2 _ (List.getElem?_eq_getElem hk)
      have h3 : (t.drop k).Pairwise (fun a b => ltS a.path b.path = true) := List.Pairwise.sublist (List.drop_sublist _ _) h
      rw [hd] at h3 ⊢
      intro x hxm
      rcases List.mem_cons.1 hxm with e | m
      · rw [e]; exact hx
      · exact ltS_trans hx ((List.pairwise_cons.1 h3).1 x m)
    · rw [List.drop_of_length_le (by omega)]
      intro x hx
      cases hx
  refine ⟨?_, ?_⟩
  · have := setF_split (t.take k) (t.drop k) f h1 (fun x hx => ltS_asymm (hp x hx))
    rw [List.take_append_drop, filter_ne_of_gt _ _ hp] at this
    exact this
  · have := hasF_append (t.take k) (t.drop k) f.path
    rw [List.take_append_drop, hasF_lt h1, hasF_gt hp] at this
    exact this

theorem setF_cases {t : List PFile} (h : ascT t) (f : PFile) : (∃ k g, k < t.length ∧ t[k]? = some g ∧ g.path = f.path ∧ setF t f = t.take k ++ f :: t.drop (k + 1) ∧ hasF t f.path = true ∧ (∀ x ∈ t.take k, ltS x.path f.path = true)) ∨
    (∃ k, k ≤ t.length ∧ setF t f = t.take k ++ f :: t.drop k ∧ hasF t f.path = false ∧ (∀ x ∈ t.take k, ltS x.path f.path = true) ∧ ∀ x ∈ t.drop k, ltS f.path x.path = true) := by
  obtain ⟨k, hk, h1, h2⟩ : ∃ k, k ≤ t.length ∧ (∀ x ∈ t.take k, ltS x.path f.path = true) ∧ ∀ x, t[k]? = some x → ltS x.path f.path = false := by
    clear h
    induction t with
    | nil => exact ⟨0, Nat.le_refl _, by simp, by simp⟩
    | cons y t ih =>
      by_cases hy : ltS y.path f.path = true
      · obtain ⟨k, hk, h1, h2⟩ := ih
        refine ⟨k + 1, by simpa using hk, ?_, by simpa using h2⟩
        intro x hx
        rw [List.take_succ_cons] at hx
        rcases List.mem_cons.1 hx with e | m
        · rw [e]; exact hy
        · exact h1 x m
      · refine ⟨0, Nat.zero_le _, by simp, ?_⟩
        intro x hx
        simp at hx
        rw [← hx]
        simpa using hy
  by_cases hkl : k < t.length
  · have hx := List.getElem?_eq_getElem hkl
    have hf := h2 _ hx
    rcases ltS_cases f.path t[k].path with c | c | c
    · right
      obtain ⟨e1, e2⟩ := setF_new h h1 (fun x h' => by rw [hx] at h'; rw [← Option.some.inj h']; exact c)
      refine ⟨k, hk, e1, e2, h1, ?_⟩
      have hd := List.drop_eq_getElem_cons hkl
      have h3 : (t.drop k).Pairwise (fun a b => ltS a.path b.path = true) := List.Pairwise.sublist (List.drop_sublist _ _) h
      rw [hd] at h3 ⊢
      intro x hxm
      rcases List.mem_cons.1 hxm with e | m
      · rw [e]; exact c
      · exact ltS_trans c ((List.pairwise_cons.1 h3).1 x m)
    · left
      obtain ⟨e1, e2⟩ := setF_here h h1 hx c.symm
      exact ⟨k, _, hkl, hx, c.symm, e1, e2, h1⟩
    · rw [hf] at c; cases c
  · right
    obtain ⟨e1, e2⟩ := setF_new h h1 (fun x h' => by rw [List.getElem?_eq_none (by omega)] at h'; cases h')
    refine ⟨k, hk, e1, e2, h1, ?_⟩
    rw [List.drop_of_length_le (by omega)]
    intro x hx
    cases hx

theorem setF_len {t : List PFile} (h : ascT t) (f : PFile) : (setF t f).length = t.length + (if hasF t f.path then 0 else 1) := by
  rcases setF_cases h f with ⟨k, g, hk, hg, he, e1, e2, _⟩ | ⟨k, hk, e1, e2, _⟩
  · rw [e1, e2]
    simp
    omega
  · rw [e1, e2]
    simp
    omega
theorem setF_asc {t : List PFile} (h : ascT t) (f : PFile) : ascT (setF t f) := by
  rcases setF_cases h f with ⟨k, g, hk, hg, he, e1, e2, h1⟩ | ⟨k, hk, e1, e2, h1, h2⟩
  · rw [e1]
    have hd : t.drop k = g :: t.drop (k + 1) := by
      rw [List.drop_eq_getElem_cons hk]
      rw [List.getElem?_eq_getElem hk] at hg
      rw [Option.some.inj hg]
    have ha : ascT (t.take k ++ t.drop k) := by rw [List.take_append_drop]; exact h
    rw [hd] at ha
    obtain ⟨a1, a2, a3⟩ := List.pairwise_append.1 ha
    obtain ⟨b1, b2⟩ := List.pairwise_cons.1 a2
    refine List.pairwise_append.2 ⟨a1, List.pairwise_cons.2 ⟨fun x hx => by rw [← he]; exact b1 x hx, b2⟩, fun x hx y hy => ?_⟩
    rcases List.mem_cons.1 hy with e | m
    · rw [e]; exact h1 x hx
    · exact a3 x hx y (List.mem_cons_of_mem _ m)
  · rw [e1]
    have ha : ascT (t.take k ++ t.drop k) := by rw [List.take_append_drop]; exact h
    obtain ⟨a1, a2, a3⟩ := List.pairwise_append.1 ha
    refine List.pairwise_append.2 ⟨a1, List.pairwise_cons.2 ⟨h2, a2⟩, fun x hx y hy => ?_⟩
    rcases List.mem_cons.1 hy with e | m
    · rw [e]; exact h1 x hx
    · exact a3 x hx y m
theorem setF_last {t : List PFile} {f : PFile} (h : ∀ x ∈ t, ltS x.path f.path = true) : setF t f = t ++ [f] := by
  have := setF_split t [] f h (fun x hx => by cases hx)
  simpa using this

/-- A tree with one more file, if it is a tree then. -/
def treeSet (t : List PFile) (f : PFile) : List PFile := if treeOk t then (if treeOk (setF t f) then setF t f else t) else []
def treeSetB (t : List PFile) (f : PFile) : Bool := treeOk t && treeOk (setF t f)

/-- What is at a path, or below it, at another one. -/
def movedF (p to : Str) (x : PFile) : PFile := ⟨to ++ x.path.drop p.length, x.text⟩
def restF (t : List PFile) (p : Str) : List PFile := t.filter (fun f => !atOr f.path p)
def goesF (t : List PFile) (p : Str) : List PFile := t.filter (fun f => atOr f.path p)
def moveF (t : List PFile) (p to : Str) : List PFile := ((goesF t p).map (movedF p to)).foldl setF (restF t p)
def treeMoveB (t : List PFile) (p to : Str) : Bool := treeOk t && (decide ((restF t p).length ≠ t.length) && pathOk to && treeOk (moveF t p to) && decide ((moveF t p to).length = t.length))
def treeMove (t : List PFile) (p to : Str) : List PFile := if treeOk t then (if treeMoveB t p to then moveF t p to else t) else []

theorem fold_asc : ∀ (l : List PFile) (o : List PFile), ascT o → ascT (l.foldl setF o)
  | [], _, h => h
  | f :: l, o, h => fold_asc l (setF o f) (setF_asc h f)
theorem fold_len : ∀ (l : List PFile) (o : List PFile), ascT o → (l.foldl setF o).length ≤ o.length + l.length
  | [], _, _ => by simp
  | f :: l, o, h => by
    have := fold_len l (setF o f) (setF_asc h f)
    rw [setF_len h f] at this
    simp only [List.foldl_cons, List.length_cons]
    split at this <;> omega
theorem fold_stuck {l : List PFile} {o : List PFile} {f : PFile} (h : ascT o) (hf : hasF o f.path = true) : ((f :: l).foldl setF o).length < o.length + (l.length + 1) := by
  have := fold_len l (setF o f) (setF_asc h f)
  rw [setF_len h f, hf] at this
  simp only [List.foldl_cons]
  simp at this
  omega
theorem fold_mem : ∀ {l : List PFile} {o : List PFile} {x : PFile}, x ∈ l.foldl setF o → x ∈ l ∨ x ∈ o
  | [], _, _, h => .inr h
  | f :: l, o, x, h => by
    rcases fold_mem (l := l) (o := setF o f) h with m | m
    · exact .inl (List.mem_cons_of_mem _ m)
    · rcases setF_mem m with e | m
      · exact .inl (by rw [e]; exact List.mem_cons_self)
      · exact .inr m
theorem rest_goes_len (t : List PFile) (p : Str) : (restF t p).length + (goesF t p).length = t.length := by
  unfold restF goesF
  induction t with
  | nil => rfl
  | cons x t ih =>
    rw [List.filter_cons, List.filter_cons]
    cases h : atOr x.path p <;> simp <;> omega
end Go.Proofs.YtmickenajhppoaaGreatDoor
