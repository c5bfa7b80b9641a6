/- Several of my texts in one: PathsOf, ChangeLaw, SpecFree. -/
import Derived.Test.YtmickenajhppoaaGreatDoorChangePlain
import Derived.Test.YtmickenajhppoaaGreatDoorSortS
import Derived.Test.YtmickenajhppoaaGreatDoorZ10
/- Walk: all paths of changes, in order: the program's pathsOf. -/
namespace Go.Proofs.YtmickenajhppoaaGreatDoor
open Go.RowKit

theorem pathsL_next {xs : List PChange} {k : Nat} {x : PChange} (h : xs[k]? = some x) : pathsL (xs.take (k + 1)) = pathsL (xs.take k) ++ pathsC x := by
  unfold pathsL
  rw [List.take_add_one, h, List.flatMap_append]
  simp
theorem pathsC_len (x : PChange) : (pathsC x).length ≤ 2 := by unfold pathsC; split <;> simp
theorem pathsL_len : ∀ xs : List PChange, (pathsL xs).length ≤ 2 * xs.length
  | [] => by simp [pathsL]
  | x :: xs => by
    have h1 := pathsL_len xs
    have h2 := pathsC_len x
    unfold pathsL at h1 ⊢
    simp only [List.flatMap_cons, List.length_append, List.length_cons]
    omega

set_option maxRecDepth 100000 in
set_option maxHeartbeats 2000000 in
theorem impl_pathsOf_any (A : Option Addr) (n c : Nat) (xs : List PChange) (w : World) (lo hi : Nat) (h : Rep w lo hi (encChanges xs) (.slice A n c)) (hh : hi ≤ w.heap.size) (hn16 : xs.length ≤ 16) :
    Calls Tryz.prog 55 #[.slice A n c] w fun e w' => ∃ A' c', e = .returned (.slice A' (pathsL xs).length c') ∧ w'.ownsRow w.heap.size 9 1 (.slice A' (pathsL xs).length c') (pathsL xs).length (encS (sortS (pathsL xs))) ∧ Below w.heap.size w w' := by
  have hl := Changes.n h
  obtain ⟨hc, hm⟩ := Changes.cap h
  subst hl
  obtain ⟨is, si0, si1, si2, si3⟩ := info_parts Tryz.infoStr
  go_enter Tryz.func55, Tryz.ntmps55
  go_wp2
  go_loopw [3, 8] (fun t i wr => ∃ (k : Nat) (A' : Option Addr) (n' c' : Nat), k ≤ xs.length ∧ i = .int .i64 k ∧ t = .slice A' n' c' ∧ n' = (pathsL (xs.take k)).length ∧
      wr.ownsRow w.heap.size 9 1 (.slice A' n' c') n' ((pathsL (xs.take k)).map fun s => .string ⟨s.toArray⟩) ∧ Below w.heap.size w wr) (fun _ i _ => xs.length - (intOf i).toNat)
  case atStart => exact ⟨0, none, 0, 0, Nat.zero_le _, rfl, rfl, by simp [pathsL], by simpa [pathsL] using World.ownsRow_nil w _ _ _, Below.refl _ _⟩
  case round =>
    obtain ⟨k, A', n', c', hk, rfl, rfl, hn', hown, hb⟩ := hrel
    have hsz := hb.size
    by_cases hkn : k < xs.length
    · have hkn' : (k : Int) < (xs.length : Int) := by omega
      obtain ⟨b1, o1, x, rfl, _, hbhi, hx, A3, n3, c3, A4, n4, c4, d0, d1, d2, d3, r3, d4, r4⟩ := Changes.at (h.keep hb hh) hkn
      have hnx := pathsL_next hx
      have hle := pathsL_len (xs.take k)
      have hle2 : (xs.take k).length ≤ 16 := by rw [List.length_take]; omega
      obtain ⟨done, hdone⟩ : ∃ done, done = pathsL (xs.take k) := ⟨_, rfl⟩
      rw [← hdone] at hn' hown hnx hle
      have hdl : done.length ≤ 32 := by omega
      subst hn'
      obtain ⟨wo, rfl⟩ : ∃ wo : World, wo = wr := ⟨_, rfl⟩
      have hpx : pathsC x = if x.kind = 4 then [x.path, x.dest] else [x.path] := rfl
      have Hpx := Lib.hid hpx
      have Hnx := Lib.hid hnx
      clear hx hdone hle hle2 hpx hnx
      have hS : Src ((wo.alloc (.cells #[.int .i64 x.kind, .string ⟨x.path.toArray⟩, .string ⟨x.dest.toArray⟩, .slice A3 n3 c3, .slice A4 n4 c4] 52)).alloc (.cells #[.string ⟨x.path.toArray⟩] 9)) 1 (some ⟨wo.heap.size + 1, 0, none⟩) 1 [.string ⟨x.path.toArray⟩] := by
        have h9 := Src.lit (wo.alloc (.cells #[.int .i64 x.kind, .string ⟨x.path.toArray⟩, .string ⟨x.dest.toArray⟩, .slice A3 n3 c3, .slice A4 n4 c4] 52)) 9 [.string ⟨x.path.toArray⟩] 1 1 rfl
        have h8 : (wo.alloc (.cells #[.int .i64 x.kind, .string ⟨x.path.toArray⟩, .string ⟨x.dest.toArray⟩, .slice A3 n3 c3, .slice A4 n4 c4] 52)).heap.size = wo.heap.size + 1 := by simp
        rw [h8] at h9
        exact h9
      go_wp2_with (at_builtin; refine wpList_append_src _ rfl (.tmp 12) (.tmp 15) _ rfl w.heap.size 9 is _ 1 16 Tryz.underlying38 si0 si1 si2 si3 rfl (by omega) _ done.length _ rfl ((hown.alloc _).alloc _) _ 1 1 [.string ⟨x.path.toArray⟩] rfl hS ?e2 ?e3 ?e4 ?e5 ?_)
      case e2 => first | rfl | (intro u hu; simp at hu; subst hu; rfl)
      case e3 => unfold maxLen; omega
      case e4 => omega
      case e5 => first | omega | (simp; omega)
      intro A5 c5 w5 hown5 hg5 hat5
      have hb5 : Below w.heap.size w w5 := ((hb.alloc (by omega) _).alloc (by simp; omega) _).grown hg5 (by simp; omega) (fun g hg => (hown.lt g hg).1)
      have kx : ∀ j u, ((wo.alloc (.cells #[.int .i64 x.kind, .string ⟨x.path.toArray⟩, .string ⟨x.dest.toArray⟩, .slice A3 n3 c3, .slice A4 n4 c4] 52)).alloc (.cells #[.string ⟨x.path.toArray⟩] 9)).cell? ⟨wo.heap.size, j, none⟩ = some u → w5.cell? ⟨wo.heap.size, j, none⟩ = some u := fun j u h9 =>
        (World.cell?_of_block (a := ⟨wo.heap.size, j, none⟩) (hg5.block wo.heap.size (by simp; omega) (fun e => by have := (hown.lt _ e.symm).2; omega))).trans h9
      have q0 := kx 0 (.int .i64 x.kind) (by go_simp)
      have q2 := kx 2 (.string ⟨x.dest.toArray⟩) (by go_simp)
      have hs5 : wo.heap.size < w5.heap.size := by have := hg5.size; simp at this; omega
      clear kx hg5 hat5
      clear hS d0 d1 d2 d3 d4 r3 r4
      by_cases k4 : x.kind = 4
      · have hn2 : pathsL (xs.take (k + 1)) = done ++ [x.path] ++ [x.dest] := by rw [Hnx.out, Hpx.out, if_pos k4]; simp
        have Hn2 := Lib.hid hn2
        have kb : (x.kind == 4) = true := by simpa using k4
        have K4 := Lib.hid k4
        clear hn2 k4
        go_wp2_with (at_builtin; refine wpList_append_src _ rfl (.tmp 20) (.tmp 23) _ rfl w.heap.size 9 is _ 1 16 Tryz.underlying38 si0 si1 si2 si3 rfl (by omega) _ (done.length + 1) _ rfl (hown5.alloc _) _ 1 1 [.string ⟨x.dest.toArray⟩] rfl (Src.lit w5 9 [.string ⟨x.dest.toArray⟩] 1 1 rfl) ?e2 ?e3 ?e4 ?e5 ?_)
        case e2 => first | rfl | (intro u hu; simp at hu; subst hu; rfl)
        case e3 => unfold maxLen; omega
        case e4 => omega
        case e5 => first | omega | (simp; omega)
        intro A6 c6 w6 hown6 hg6 hat6
        have hb6 : Below w.heap.size w w6 := (hb5.alloc (by omega) _).grown hg6 (by simp; omega) (fun g hg => (hown5.lt g hg).1)
        clear hg6 hat6
        go_wp2
        go_roundw
        case rel => exact ⟨k + 1, A6, _, c6, by omega, by go_num, rfl, by rw [Hn2.out]; simp, by rw [Hn2.out]; simpa using hown6, hb6⟩
        case measure => first | (simp [intOf]; done) | (simp [intOf]; omega)
      · have hn2 : pathsL (xs.take (k + 1)) = done ++ [x.path] := by rw [Hnx.out, Hpx.out, if_neg k4]
        have Hn2 := Lib.hid hn2
        have kb : (x.kind == 4) = false := by simpa using k4
        clear hn2
        go_wp2
        go_roundw
        case rel => exact ⟨k + 1, A5, _, c5, by omega, by go_num, rfl, by rw [Hn2.out]; simp, by rw [Hn2.out]; simpa using hown5, hb5⟩
        case measure => first | (simp [intOf]; done) | (simp [intOf]; omega)
    · obtain rfl : k = xs.length := by omega
      rw [List.take_length] at hn' hown
      have hle := pathsL_len xs
      subst hn'
      go_wp2_with fail
      refine Calls.mono (sort_any _ _ _ w.heap.size (pathsL xs) _ hown (by omega)) ?_
      rintro e w2 ⟨rfl, hown2, hg2⟩
      have hb2 : Below w.heap.size w w2 := hb.grown hg2 (by omega) (fun g hg => (hown.lt g hg).1)
      clear hg2
      go_wp2
      go_ret
      exact ⟨_, _, rfl, hown2, hb2⟩
end Go.Proofs.YtmickenajhppoaaGreatDoor

/- Plain law: the reference's test of each change against those ahead of it: no path twice. -/
namespace Go.Proofs.YtmickenajhppoaaGreatDoor
open Go.RowKit

def freeP (l : List PChange) (p : Str) : Bool := l.all fun c => !(c.path == p) && !(c.dest == p)
def okStep (xs : List PChange) (k : Nat) (x : PChange) : Bool := changeOk x && (freeP (xs.take k) x.path && (x.dest.isEmpty || freeP (xs.take k) x.dest))
/-- The first k changes are ok. -/
def okTo (xs : List PChange) (k : Nat) : Prop := (xs.take k).all changeOk = true ∧ (pathsL (xs.take k)).Nodup
theorem changeOk_path {c : PChange} (h : changeOk c = true) : pathOk c.path = true := by
  unfold changeOk at h
  rw [Bool.and_eq_true] at h
  exact h.1
theorem changeOk_dest {c : PChange} (h : changeOk c = true) (hk : ¬ c.kind = 4) : c.dest = [] := by
  unfold changeOk at h
  rw [Bool.and_eq_true] at h
  have h2 := h.2
  split at h2
  · simp only [Bool.and_eq_true, decide_eq_true_eq] at h2
    exact h2.2.1
  · split at h2
    · simp only [Bool.and_eq_true, decide_eq_true_eq] at h2
      exact h2.2.1
    · simp at h2
theorem changeOk_move {c : PChange} (h : changeOk c = true) (hk : c.kind = 4) : pathOk c.dest = true ∧ c.dest ≠ c.path := by
  unfold changeOk at h
  rw [Bool.and_eq_true] at h
  have h2 := h.2
  rw [if_neg (by omega), if_neg (by omega), if_pos hk] at h2
  simp only [Bool.and_eq_true, Bool.not_eq_true', beq_eq_false_iff_ne] at h2
  exact ⟨h2.2.2.1, h2.2.2.2⟩
theorem pathOk_ne {p : Str} (h : pathOk p = true) : p ≠ [] := by
  intro e
  subst e
  revert h
  decide
theorem mem_pathsC {c : PChange} (h : changeOk c = true) {p : Str} (hp : p ≠ []) : p ∈ pathsC c ↔ c.path = p ∨ c.dest = p := by
  unfold pathsC
  split
  · simp only [List.mem_cons, List.not_mem_nil, or_false]
    constructor
    · rintro (e | e)
      · exact .inl e.symm
      · exact .inr e.symm
    · rintro (e | e)
      · exact .inl e.symm
      · exact .inr e.symm
  · rename_i hk
    have hd := changeOk_dest h hk
    simp only [List.mem_cons, List.not_mem_nil, or_false]
    constructor
    · intro e; exact .inl e.symm
    · rintro (e | e)
      · exact e.symm
      · rw [hd] at e; exact absurd e.symm hp
theorem freeP_iff {l : List PChange} (h : l.all changeOk = true) {p : Str} (hp : p ≠ []) : freeP l p = true ↔ p ∉ pathsL l := by
  rw [List.all_eq_true] at h
  unfold freeP pathsL
  simp only [List.all_eq_true, Bool.and_eq_true, Bool.not_eq_true', beq_eq_false_iff_ne, List.mem_flatMap, not_exists, not_and]
  constructor
  · intro h1 c hc hm
    rcases (mem_pathsC (h c hc) hp).1 hm with e | e
    · exact (h1 c hc).1 e
    · exact (h1 c hc).2 e
  · intro h1 c hc
    exact ⟨fun e => h1 c hc ((mem_pathsC (h c hc) hp).2 (.inl e)), fun e => h1 c hc ((mem_pathsC (h c hc) hp).2 (.inr e))⟩
theorem okTo_next {xs : List PChange} {k : Nat} {x : PChange} (hx : xs[k]? = some x) (h : okTo xs k) : okStep xs k x = true ↔ okTo xs (k + 1) := by
  obtain ⟨h1, h2⟩ := h
  unfold okTo
  rw [pathsL_next hx]
  have ha : (xs.take (k + 1)).all changeOk = changeOk x := by rw [List.take_add_one, hx, List.all_append, h1]; simp
  rw [ha]
  unfold okStep
  simp only [Bool.and_eq_true, Bool.or_eq_true]
  constructor
  · rintro ⟨hc, hf, hg⟩
    refine ⟨hc, List.nodup_append.2 ⟨h2, ?_, ?_⟩⟩
    · unfold pathsC
      split
      · rename_i hk
        have := (changeOk_move hc hk).2
        simp only [List.nodup_cons, List.mem_cons, List.not_mem_nil, or_false, not_false_eq_true, List.nodup_nil, and_true]
        exact fun e => this e.symm
      · simp
    · intro a ha' b hb e
      subst e
      have hf' := (freeP_iff h1 (pathOk_ne (changeOk_path hc))).1 hf
      by_cases hk : x.kind = 4
      · have hm := changeOk_move hc hk
        have hne := pathOk_ne hm.1
        have hg' : freeP (xs.take k) x.dest = true := by
          rcases hg with e | e
          · exact absurd (by simpa using e) hne
          · exact e
        unfold pathsC at hb
        rw [if_pos hk] at hb
        simp only [List.mem_cons, List.not_mem_nil, or_false] at hb
        rcases hb with e | e
        · subst e; exact hf' ha'
        · subst e; exact (freeP_iff h1 hne).1 hg' ha'
      · unfold pathsC at hb
        rw [if_neg hk] at hb
        simp only [List.mem_cons, List.not_mem_nil, or_false] at hb
        subst hb
        exact hf' ha'
  · rintro ⟨hc, hn⟩
    obtain ⟨_, _, hd⟩ := List.nodup_append.1 hn
    have hnot : ∀ p ∈ pathsC x, p ∉ pathsL (xs.take k) := fun p hp hm => hd p hm p hp rfl
    refine ⟨hc, (freeP_iff h1 (pathOk_ne (changeOk_path hc))).2 (hnot _ ?_), ?_⟩
    · unfold pathsC
      split <;> simp
    · by_cases hk : x.kind = 4
      · right
        have hm := changeOk_move hc hk
        exact (freeP_iff h1 (pathOk_ne hm.1)).2 (hnot _ (by unfold pathsC; rw [if_pos hk]; simp))
      · left
        rw [changeOk_dest hc hk]
        rfl
theorem okTo_zero (xs : List PChange) : okTo xs 0 := ⟨by simp, by simp [pathsL]⟩
theorem okTo_end {xs : List PChange} (h : okTo xs xs.length) : changesOk xs = decide (xs.length ≤ 16) := by
  obtain ⟨h1, h2⟩ := h
  rw [List.take_length] at h1 h2
  unfold changesOk
  rw [h1]
  simp [h2]
theorem pathsL_split (xs : List PChange) (k : Nat) : pathsL xs = pathsL (xs.take k) ++ pathsL (xs.drop k) := by
  unfold pathsL
  rw [← List.flatMap_append, List.take_append_drop]
theorem okTo_not {xs : List PChange} {k : Nat} (h : ¬ okTo xs k) : changesOk xs = false := by
  cases e : changesOk xs with
  | false => rfl
  | true =>
    unfold changesOk at e
    simp only [Bool.and_eq_true, decide_eq_true_eq, List.all_eq_true] at e
    refine absurd ⟨?_, ?_⟩ h
    · rw [List.all_eq_true]
      exact fun c hc => e.2.1 c (List.mem_of_mem_take hc)
    · have := e.2.2
      rw [pathsL_split xs k] at this
      exact (List.nodup_append.1 this).1
end Go.Proofs.YtmickenajhppoaaGreatDoor

/- Walk: the reference's l5Free. -/
namespace Go.Proofs.YtmickenajhppoaaGreatDoor
open Go.RowKit

theorem freeP_next {xs : List PChange} {l : Nat} {x : PChange} {p : Str} (hx : xs[l]? = some x) (h : freeP (xs.take l) p = true) : freeP (xs.take (l + 1)) p = (!(x.path == p) && !(x.dest == p)) := by
  unfold freeP at h ⊢
  rw [List.take_add_one, hx, List.all_append, h]
  simp
theorem freeP_not {xs : List PChange} {l k : Nat} {x : PChange} {p : Str} (hx : xs[l]? = some x) (hl : l < k) (h : (!(x.path == p) && !(x.dest == p)) = false) : freeP (xs.take k) p = false := by
  cases e : freeP (xs.take k) p with
  | false => rfl
  | true =>
    unfold freeP at e
    rw [List.all_eq_true] at e
    have hm : x ∈ xs.take k := List.mem_of_getElem? (i := l) (by rw [List.getElem?_take, if_pos hl]; exact hx)
    rw [e x hm] at h
    cases h

set_option maxRecDepth 100000 in
set_option maxHeartbeats 2000000 in
theorem spec_l5Free_any (A : Option Addr) (c k : Nat) (xs : List PChange) (p : Str) (w : World) (lo hi : Nat) (h : Rep w lo hi (encChanges xs) (.slice A xs.length c)) (hk : k ≤ xs.length) :
    Calls Tryz.prog 44 #[.slice A k c, .string ⟨p.toArray⟩] w fun e w' => e = .returned (.bool (freeP (xs.take k) p)) ∧ w = w' := by
  obtain ⟨hc, hm⟩ := Changes.cap h
  obtain ⟨v, hv⟩ : ∃ v, v = freeP (xs.take k) p := ⟨_, rfl⟩
  rw [← hv]
  have Hv := Lib.hid hv
  clear hv
  go_enter Tryz.func44, Tryz.ntmps44
  go_wp2
  go_loopw [5] (fun i wr => ∃ l : Nat, l ≤ k ∧ i = .int .i64 l ∧ Hid (freeP (xs.take l) p = true) ∧ wr = w) (fun i _ => k - (intOf i).toNat)
  case atStart => exact ⟨0, Nat.zero_le _, rfl, Lib.hid (by simp [freeP]), rfl⟩
  case round =>
    obtain ⟨l, hl, rfl, hf, rfl⟩ := hrel
    by_cases hln : l < k
    · have hln' : (l : Int) < (k : Int) := by omega
      obtain ⟨b1, o1, x, rfl, _, _, hx, A3, n3, c3, A4, n4, c4, d0, d1, d2, d3, r3, d4, r4⟩ := Changes.at h (k := l) (by omega)
      have hn := freeP_next hx hf.out
      have hno := freeP_not (p := p) hx hln
      cases e1 : (x.path == p)
      · cases e2 : (x.dest == p)
        · have Hn := Lib.hid (show freeP (xs.take (l + 1)) p = true by rw [hn, e1, e2]; rfl)
          clear hn hno hx
          go_wp2
          go_roundw
          case rel => exact ⟨l + 1, by omega, by go_num, Hn, by first | rfl | trivial⟩
          case measure => first | (simp [intOf]; done) | (simp [intOf]; omega)
        · have Hn := Lib.hid (hno (by rw [e1, e2]; rfl))
          clear hn hno hx
          go_wp2
          go_ret
          exact ⟨ret_bool (by rw [Hv.out, Hn.out]), rfl⟩
      · have Hn := Lib.hid (hno (by rw [e1]; rfl))
        clear hn hno hx
        go_wp2
        go_ret
        exact ⟨ret_bool (by rw [Hv.out, Hn.out]), rfl⟩
    · obtain rfl : l = k := by omega
      go_wp2
      go_ret
      exact ⟨ret_bool (by rw [Hv.out, hf.out]), rfl⟩
end Go.Proofs.YtmickenajhppoaaGreatDoor
