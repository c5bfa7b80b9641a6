/- Several of my texts in one: CDoPlain, IndexF, CDoMem. -/
import Derived.Test.YtmickenajhppoaaGreatDoorChangePlain
import Derived.Test.YtmickenajhppoaaGreatDoorZ28
import Derived.Test.YtmickenajhppoaaGreatDoorZ25
import Derived.Test.YtmickenajhppoaaGreatDoorZ23
import Derived.Test.YtmickenajhppoaaGreatDoorZ10
/- Plain: changes made in a tree: what is taken out, what is put in. -/
namespace Go.Proofs.YtmickenajhppoaaGreatDoor
open Go.RowKit

def oldAt (t : List PFile) (c : PChange) : List Str := (getAt t c.path).getD []
/-- What the change wants is there. -/
def takeOk (t : List PFile) (c : PChange) : Bool := if c.kind = 1 then true else match getAt t c.path with
  | none => false
  | some x => if c.kind = 2 then decide (x = c.text) else true
def restC (o : List PFile) (c : PChange) : List PFile := if c.kind = 1 then o else o.filter fun f => !decide (f.path = c.path)
def takes (t : List PFile) (l : List PChange) : List PFile := l.foldl restC t
def fileOf (t : List PFile) (c : PChange) : Option PFile := if c.kind = 1 then some ⟨c.path, c.text⟩ else if c.kind = 3 then (patchDo (oldAt t c) c.patch).map (fun x => ⟨c.path, x⟩) else some ⟨c.dest, oldAt t c⟩
def putAll (t : List PFile) : List PChange → List PFile → Option (List PFile)
  | [], o => some o
  | c :: l, o => if c.kind = 2 then putAll t l o else match fileOf t c with
    | none => none
    | some f => if hasF o f.path = true then none else putAll t l (setF o f)
def lastOk : Option (List PFile) → Option (List PFile)
  | some o => if treeOk o = true then some o else none
  | none => none
def changesDo (t : List PFile) (l : List PChange) : Option (List PFile) := if (treeOk t && changesOk l) = true then (if l.all (takeOk t) = true then lastOk (putAll t l (takes t l)) else none) else none

theorem takes_next {t : List PFile} {l : List PChange} {k : Nat} {c : PChange} (h : l[k]? = some c) : takes t (l.take (k + 1)) = restC (takes t (l.take k)) c := by
  unfold takes
  rw [List.take_add_one, h, List.foldl_append]
  rfl
theorem putAll_next {t : List PFile} {l : List PChange} {k : Nat} {c : PChange} (h : l[k]? = some c) (o : List PFile) : putAll t (l.drop k) o = if c.kind = 2 then putAll t (l.drop (k + 1)) o else match fileOf t c with
    | none => none
    | some f => if hasF o f.path = true then none else putAll t (l.drop (k + 1)) (setF o f) := by
  rw [List.drop_eq_getElem_cons (List.getElem?_eq_some_iff.1 h).1, (List.getElem?_eq_some_iff.1 h).2]
  rfl
theorem all_takeC {t : List PFile} {l : List PChange} {k : Nat} {c : PChange} (h : l[k]? = some c) (ha : (l.take k).all (takeOk t) = true) (hc : takeOk t c = true) : (l.take (k + 1)).all (takeOk t) = true := by
  rw [List.take_add_one, h, List.all_append, ha]
  simp [hc]
theorem all_notC {t : List PFile} {l : List PChange} {k : Nat} {c : PChange} (h : l[k]? = some c) (hc : takeOk t c = false) : l.all (takeOk t) = false := by
  cases e : l.all (takeOk t) with
  | false => rfl
  | true =>
    rw [List.all_eq_true] at e
    rw [e c (List.mem_of_getElem? h)] at hc
    cases hc
theorem restC_sub (o : List PFile) (c : PChange) : ∀ f ∈ restC o c, f ∈ o := by
  intro f hf
  unfold restC at hf
  split at hf
  · exact hf
  · exact (List.mem_filter.1 hf).1
theorem restC_asc {o : List PFile} (h : ascT o) (c : PChange) : ascT (restC o c) := by
  unfold restC
  split
  · exact h
  · exact List.Pairwise.filter _ h
theorem takes_asc : ∀ (l : List PChange) (t : List PFile), ascT t → ascT (takes t l)
  | [], _, h => h
  | c :: l, t, h => takes_asc l (restC t c) (restC_asc h c)
theorem takes_sub : ∀ (l : List PChange) (t : List PFile), ∀ f ∈ takes t l, f ∈ t
  | [], _, _, h => h
  | c :: l, t, f, h => restC_sub t c f (takes_sub l (restC t c) f h)
theorem restC_len (o : List PFile) (c : PChange) : (restC o c).length ≤ o.length := by
  unfold restC
  split
  · exact Nat.le_refl _
  · exact List.length_filter_le _ _
theorem takes_len : ∀ (l : List PChange) (t : List PFile), (takes t l).length ≤ t.length
  | [], _ => Nat.le_refl _
  | c :: l, t => Nat.le_trans (takes_len l (restC t c)) (restC_len t c)
theorem hasF_get (o : List PFile) (p : Str) : (getAt o p).isSome = hasF o p := by
  induction o with
  | nil => rfl
  | cons f o ih =>
    rw [getAt]
    unfold hasF at ih ⊢
    rw [List.any_cons]
    split
    · rename_i h; simp [h]
    · rename_i h; rw [ih]; simp [h]
/-- What another path's taking out leaves. -/
theorem getAt_filter {o : List PFile} {p q : Str} (h : p ≠ q) : getAt (o.filter fun f => !decide (f.path = q)) p = getAt o p := by
  induction o with
  | nil => rfl
  | cons f o ih =>
    by_cases hf : f.path = q
    · rw [List.filter_cons_of_neg (by simp [hf]), ih, getAt, if_neg (fun e => h (e.symm.trans hf))]
    · rw [List.filter_cons_of_pos (by simp [hf]), getAt, getAt, ih]
theorem getAt_restC {o : List PFile} {c : PChange} {p : Str} (h : p ≠ c.path) : getAt (restC o c) p = getAt o p := by
  unfold restC
  split
  · rfl
  · exact getAt_filter h
theorem getAt_takes : ∀ (l : List PChange) (t : List PFile) (p : Str), (∀ c ∈ l, p ≠ c.path) → getAt (takes t l) p = getAt t p
  | [], _, _, _ => rfl
  | c :: l, t, p, h => (getAt_takes l (restC t c) p (fun d hd => h d (List.mem_cons_of_mem _ hd))).trans (getAt_restC (h c List.mem_cons_self))
theorem takeOk_get {t : List PFile} {c : PChange} (h : takeOk t c = true) (hk : ¬ c.kind = 1) : ∃ x, getAt t c.path = some x ∧ (c.kind = 2 → x = c.text) := by
  unfold takeOk at h
  rw [if_neg hk] at h
  cases hg : getAt t c.path with
  | none => rw [hg] at h; cases h
  | some x =>
    rw [hg] at h
    refine ⟨x, rfl, fun h2 => ?_⟩
    dsimp only at h
    rw [if_pos h2] at h
    simpa using h
end Go.Proofs.YtmickenajhppoaaGreatDoor

/- Walks: ChangesDo's closure, and slices.IndexFunc with it. -/
namespace Go.Proofs.YtmickenajhppoaaGreatDoor
open Go.RowKit

/-- Where a path stands first; -1, if nowhere. -/
def idxF : List PFile → Str → Int
  | [], _ => -1
  | f :: t, p => if f.path = p then 0 else if idxF t p < 0 then -1 else idxF t p + 1
theorem idxF_lt (t : List PFile) (p : Str) : -1 ≤ idxF t p := by
  induction t with
  | nil => simp [idxF]
  | cons f t ih => unfold idxF; split; omega; split <;> omega
theorem idxF_at : ∀ {t : List PFile} {k : Nat} {x : PFile} {p : Str}, t[k]? = some x → x.path = p → (∀ y ∈ t.take k, y.path ≠ p) → idxF t p = k
  | f :: t, 0, x, p, h, he, _ => by
    simp at h
    subst h
    unfold idxF
    rw [if_pos he]
    rfl
  | f :: t, k + 1, x, p, h, he, hn => by
    have h1 := idxF_at (t := t) (k := k) (by simpa using h) he (fun y hy => hn y (by simp [hy]))
    unfold idxF
    rw [if_neg (hn f (by simp)), if_neg (by omega), h1]
    rfl
theorem idxF_no {t : List PFile} {p : Str} (h : ∀ y ∈ t, y.path ≠ p) : idxF t p = -1 := by
  induction t with
  | nil => rfl
  | cons f t ih =>
    have h1 := ih (fun y hy => h y (List.mem_cons_of_mem _ hy))
    unfold idxF
    rw [if_neg (h f List.mem_cons_self), if_pos (by omega)]
/-- It stands there: what is there, and what is left without it. -/
theorem idxF_some : ∀ {t : List PFile} {p : Str} {x : List Str}, ascT t → getAt t p = some x → ∃ (k : Nat) (f : PFile), idxF t p = (k : Int) ∧ t[k]? = some f ∧ f.path = p ∧ f.text = x ∧ t.take k ++ t.drop (k + 1) = t.filter (fun y => !decide (y.path = p))
  | f :: t, p, x, ha, hg => by
    obtain ⟨h1, h2⟩ := List.pairwise_cons.1 ha
    rw [getAt] at hg
    split at hg
    · rename_i he
      cases hg
      refine ⟨0, f, by (unfold idxF; rw [if_pos he]; try rfl), rfl, he, rfl, ?_⟩
      rw [List.filter_cons_of_neg (by simp [he])]
      have : t.filter (fun y => !decide (y.path = p)) = t := filter_ne_of_gt t p (fun y hy => he ▸ h1 y hy)
      rw [this]
      rfl
    · rename_i he
      obtain ⟨k, y, e1, e2, e3, e4, e5⟩ := idxF_some h2 hg
      refine ⟨k + 1, y, by (unfold idxF; rw [if_neg he, if_neg (by omega), e1]; try rfl), by simpa using e2, e3, e4, ?_⟩
      rw [List.filter_cons_of_pos (by simp [he]), ← e5]
      rfl
theorem idxF_none {t : List PFile} {p : Str} (hg : getAt t p = none) : idxF t p = -1 := by
  refine idxF_no fun y hy he => ?_
  induction t with
  | nil => cases hy
  | cons f t ih =>
    rw [getAt] at hg
    split at hg
    · cases hg
    · rename_i hne
      rcases List.mem_cons.1 hy with rfl | hy
      · exact hne he
      · exact ih hg hy

set_option maxHeartbeats 400000 in
theorem closure_any (s p : Str) (v1 : Value) (g : Nat) (w : World) (hg : w.cell? ⟨g, 1, none⟩ = some (.string ⟨p.toArray⟩)) :
    Calls Tryz.prog 27 #[.agg #[.string ⟨s.toArray⟩, v1], .pointer (some ⟨g, 0, none⟩)] w fun e w' => e = .returned (.bool (s == p)) ∧ Below w.heap.size w w' := by
  have hlt : g < w.heap.size := World.block_lt_of_cell? w _ hg
  have hgx := fun o => (((Below.refl w.heap.size w).alloc (Nat.le_refl _) o).cell (p := ⟨g, 1, none⟩) hlt).trans hg
  have hbx := fun o => (Below.refl w.heap.size w).alloc (Nat.le_refl _) o
  clear hlt
  go_enter Tryz.func27, Tryz.ntmps27
  go_wp2
  go_ret
  exact ⟨rfl, hbx _⟩

set_option maxRecDepth 100000 in
set_option maxHeartbeats 1000000 in
theorem indexFunc_any (A : Option Addr) (n c : Nat) (o : List PFile) (p : Str) (g : Nat) (w : World) (lo hi : Nat) (h : Rep w lo hi (encFiles o) (.slice A n c)) (hh : hi ≤ w.heap.size) (hg : w.cell? ⟨g, 1, none⟩ = some (.string ⟨p.toArray⟩)) :
    Calls Tryz.prog 26 #[.slice A n c, .func (.func 27) #[] #[.pointer (some ⟨g, 0, none⟩)]] w fun e w' => e = .returned (.int .i64 (idxF o p)) ∧ Below w.heap.size w w' := by
  have hl := Files.n h
  obtain ⟨hc, hm⟩ := Files.cap h
  subst hl
  have hlt : g < w.heap.size := World.block_lt_of_cell? w _ hg
  obtain ⟨v, hv⟩ : ∃ v, v = idxF o p := ⟨_, rfl⟩
  rw [← hv]
  have Hv := Lib.hid hv
  clear hv
  go_enter Tryz.func26, Tryz.ntmps26
  go_wp2
  go_loopw [8] (fun i wr => ∃ k : Nat, k ≤ o.length ∧ i = .int .i64 k ∧ Hid (∀ y ∈ o.take k, y.path ≠ p) ∧ Below w.heap.size w wr) (fun i _ => o.length - (intOf i).toNat)
  case atStart => exact ⟨0, Nat.zero_le _, rfl, Lib.hid (fun y hy => by simp at hy), Below.refl _ _⟩
  case round =>
    obtain ⟨k, hk, rfl, hno, hb⟩ := hrel
    have hsz := hb.size
    obtain ⟨wo, rfl⟩ : ∃ wo : World, wo = wr := ⟨_, rfl⟩
    by_cases hkn : k < o.length
    · have hkn' : (k : Int) < (o.length : Int) := by omega
      obtain ⟨b1, o1, x, rfl, _, hbhi, hx, A3, n3, c3, d0, d1, r3⟩ := Files.at (h.keep hb hh) hkn
      have hcl := closure_any x.path p (.slice A3 n3 c3) g wo ((hb.cell (p := ⟨g, 1, none⟩) hlt).trans hg)
      have Hx := Lib.hid hx
      clear hx
      go_wp2_with fail
      refine Calls.mono hcl ?_
      rintro e w2 ⟨rfl, hb2⟩
      have hbz := hb.trans (hb2.mono hsz)
      clear hcl hb2
      by_cases he : x.path = p
      · have hbe : (x.path == p) = true := by simp [he]
        have Hr := Lib.hid (show v = (k : Int) by rw [Hv.out]; exact idxF_at Hx.out he hno.out)
        rw [hbe]
        clear he hbe
        go_wp2
        go_ret
        exact ⟨ret_int (by rw [Hr.out]), hbz⟩
      · have hbe : (x.path == p) = false := by simp [he]
        have Hn := Lib.hid (show ∀ y ∈ o.take (k + 1), y.path ≠ p from fun y hy => by
          rw [List.take_add_one, Hx.out] at hy
          rcases List.mem_append.1 hy with hy | hy
          · exact hno.out y hy
          · simp at hy; subst hy; exact he)
        rw [hbe]
        clear he hbe
        go_wp2
        go_roundw
        case rel => exact ⟨k + 1, by omega, by go_num, Hn, hbz⟩
        case measure => simp [intOf]; omega
    · obtain rfl : k = o.length := by omega
      rw [List.take_length] at hno
      have Hr := Lib.hid (show v = -1 by rw [Hv.out]; exact idxF_no hno.out)
      clear hno
      go_wp2
      go_ret
      exact ⟨ret_int (by rw [Hr.out]), hb⟩
end Go.Proofs.YtmickenajhppoaaGreatDoor

/- Small words for the walks of ChangesDo. -/
namespace Go.Proofs.YtmickenajhppoaaGreatDoor
open Go.RowKit

theorem keepAt {w w' : World} {B b j : Nat} {v : Value} (hb : Below B w w') (hl : b < B) (h : w.cell? ⟨b, j, none⟩ = some v) : w'.cell? ⟨b, j, none⟩ = some v := (hb.cell (p := ⟨b, j, none⟩) hl).trans h
theorem row_cells {w : World} {g : Nat} {t : TypeId} {a0 a1 : Value} (h : w.heap[g]? = some (Obj.cells #[a0, a1] t)) : w.cell? ⟨g, 0, none⟩ = some a0 ∧ w.cell? ⟨g, 1, none⟩ = some a1 ∧ ∀ j, w.frozen? ⟨g, j, none⟩ = false :=
  ⟨by simp only [World.cell?, h]; rfl, by simp only [World.cell?, h]; rfl, fun j => by simp [World.frozen?, h]⟩
theorem textOk_len1 {t : List Str} (h : textOk t = true) : ∀ s ∈ t, s.length ≤ 9223372036854775807 := by
  intro s hs
  have h1 : lineOk s = true := by
    unfold textOk at h
    rw [Bool.and_eq_true, List.all_eq_true] at h
    exact h.2 s hs
  unfold lineOk at h1
  rw [Bool.and_eq_true, decide_eq_true_eq] at h1
  omega
theorem getAt_textOk {t : List PFile} (h : treeOk t = true) {p : Str} {x : List Str} (hg : getAt t p = some x) : textOk x = true := by
  obtain ⟨f, hf, _, rfl⟩ := getAt_mem hg
  obtain ⟨k, hk⟩ := List.getElem?_of_mem hf
  exact (treeAt_parts hk ((treeOk_iff.1 h).2 k (List.getElem?_eq_some_iff.1 hk).1)).1
theorem patchDo_textOk {t r : List Str} {d : List PHunk} (h : patchDo t d = some r) : textOk r = true := by
  unfold patchDo at h
  split at h
  · exact doFrom_ok h
  · cases h
theorem changeOk_kinds {c : PChange} (h : changeOk c = true) : c.kind = 1 ∧ textOk c.text = true ∨ c.kind = 2 ∨ c.kind = 3 ∧ patchOk c.patch = true ∨ c.kind = 4 := by
  unfold changeOk at h
  rw [Bool.and_eq_true] at h
  by_cases k1 : c.kind = 1
  · rw [if_pos (.inl k1), Bool.and_eq_true] at h
    exact .inl ⟨k1, h.2.1⟩
  · by_cases k2 : c.kind = 2
    · exact .inr (.inl k2)
    · rw [if_neg (by omega)] at h
      by_cases k3 : c.kind = 3
      · rw [if_pos k3] at h
        simp only [Bool.and_eq_true] at h
        exact .inr (.inr (.inl ⟨k3, h.2.2.2.2⟩))
      · rw [if_neg k3] at h
        by_cases k4 : c.kind = 4
        · exact .inr (.inr (.inr k4))
        · rw [if_neg k4] at h
          exact absurd h.2 (by simp)

end Go.Proofs.YtmickenajhppoaaGreatDoor
