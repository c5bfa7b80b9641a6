/- Walks: ChangesPaths, both sides. -/
import Derived.Test.YtmilojppcleccaaDoorChangesOk
import Derived.Test.YtmilojppcleccaaDoorSpecChangesOk
import Derived.Test.YtmilojppcleccaaDoorPathsPut
namespace Go.Proofs.YtmilojppcleccaaDoor
open Go.RowKit

theorem sortS_set {l : List Str} (h : l.Nodup) : sortS l = setS l := by
  have h1 := compact_sortS l
  have h2 := (compact_len l).2 h
  have hn : (sortS l).length = l.length := (sortS_perm l).length_eq
  have hc : Lib.compact (sortS l) = sortS l := by
    refine Lib.compact_all _ fun j hj => ?_
    have hnd : (sortS l).Nodup := (sortS_perm l).nodup_iff.2 h
    unfold Lib.keeps
    simp only [decide_eq_true_eq]
    by_cases h0 : j = 0
    · exact .inl h0
    · right
      rw [getElem!_pos (sortS l).toArray j (by simpa using hj), getElem!_pos (sortS l).toArray (j - 1) (by simp; omega)]
      simp only [List.getElem_toArray]
      intro e
      exact List.pairwise_iff_getElem.1 hnd (j - 1) j (by omega) hj (by omega) e.symm
  rw [← h1, hc]
theorem insS_len (l : List Str) (s : Str) : (insS l s).length ≤ l.length + 1 := by
  induction l with
  | nil => simp [insS]
  | cons y t ih =>
    unfold insS
    split
    · simp only [List.length_cons]; omega
    · split <;> simp
theorem foldS_len (l o : List Str) : (l.foldl insS o).length ≤ l.length + o.length := by
  induction l generalizing o with
  | nil => simp
  | cons y t ih =>
    have h1 := ih (insS o y)
    have h2 := insS_len o y
    simp only [List.foldl_cons, List.length_cons]
    omega
theorem bnd_ChangesPaths (xs : List PChange) : (changesPaths xs).length ≤ 32 := by
  unfold changesPaths
  split
  · rename_i h
    have h1 := pathsL_len xs
    have h2 : (sortS (pathsL xs)).length = (pathsL xs).length := (sortS_perm _).length_eq
    unfold changesOk at h
    simp only [Bool.and_eq_true, decide_eq_true_eq] at h
    omega
  · simp
theorem dest_kind {x : PChange} (h : changeOk x = true) : pathsC x = if x.dest.isEmpty then [x.path] else [x.path, x.dest] := by
  unfold pathsC
  by_cases hk : x.kind = 4
  · have := pathOk_ne (changeOk_move h hk).1
    rw [if_pos hk, if_neg (by simpa using this)]
  · rw [if_neg hk, if_pos (by rw [changeOk_dest h hk]; rfl)]

set_option maxRecDepth 100000 in
set_option maxHeartbeats 2000000 in
theorem impl_ChangesPaths_any (A : Option Addr) (n c : Nat) (xs : List PChange) (w : World) (lo hi : Nat) (h : Rep w lo hi (encChanges xs) (.slice A n c)) (hh : hi ≤ w.heap.size) (hz : szChanges xs ≤ 1048576) :
    Calls Tryd.prog 13 #[.slice A n c] w fun e w' => ∃ A n c, e = .returned (.slice A n c) ∧ Below w.heap.size w w' ∧ Fresh w' w.heap.size w'.heap.size (encText (changesPaths xs)) (.slice A n c) := by
  have hput : changesPaths xs = if changesOk xs then sortS (pathsL xs) else [] := rfl
  have h16 : changesOk xs = true → xs.length ≤ 16 := fun h9 => by
    unfold changesOk at h9
    simp only [Bool.and_eq_true, decide_eq_true_eq] at h9
    exact h9.1
  obtain ⟨P, hP⟩ : ∃ P, P = changesPaths xs := ⟨_, rfl⟩
  rw [← hP] at hput ⊢
  obtain ⟨b, hbk⟩ : ∃ b, b = changesOk xs := ⟨_, rfl⟩
  have hcall := impl_ChangesOk_any A n c xs w lo hi h hh hz
  rw [← hbk] at hput hcall h16
  clear hP hbk
  have Hput := Lib.hid hput
  have H16 := Lib.hid h16
  clear hput h16
  go_enter Tryd.func13, Tryd.ntmps13
  go_wp2_with fail
  refine Calls.mono hcall ?_
  rintro e w1 ⟨rfl, hb1⟩
  have hs1 := hb1.size
  clear hcall
  cases b with
  | false =>
    go_wp2
    go_ret
    exact ⟨none, 0, 0, rfl, hb1, by rw [Hput.out]; exact Fresh.nil _ _ _ _ _⟩
  | true =>
    go_wp2_with fail
    refine Calls.mono (impl_pathsOf_any A n c xs w1 lo hi (h.keep hb1 hh) (Nat.le_trans hh hs1) (by first | exact H16.out rfl | exact H16.out trivial | exact H16.out)) ?_
    rintro e w2 ⟨A2, c2, rfl, hown2, hb2⟩
    have hfr : Fresh w2 w1.heap.size w2.heap.size (encText (sortS (pathsL xs))) (.slice A2 (pathsL xs).length c2) := Fresh.of_row hown2 (owns_strs _ _)
    have Hfr := Lib.hid (Fresh.mono (lo' := w.heap.size) hfr hs1 (Nat.le_refl _))
    clear hfr hown2
    go_wp2
    go_ret
    exact ⟨_, _, _, rfl, hb1.trans (hb2.mono hs1), by rw [Hput.out]; exact Hfr.out⟩

set_option maxRecDepth 100000 in
set_option maxHeartbeats 2000000 in
theorem spec_ChangesPaths_any (A : Option Addr) (n c : Nat) (xs : List PChange) (w : World) (lo hi : Nat) (h : Rep w lo hi (encChanges xs) (.slice A n c)) (hh : hi ≤ w.heap.size) (hz : szChanges xs ≤ 1048576) (hs : ∀ x ∈ xs, okChange x) :
    Calls Tryd.prog 12 #[.slice A n c] w fun e w' => ∃ A n c, e = .returned (.slice A n c) ∧ Below w.heap.size w w' ∧ Rep w' w.heap.size w'.heap.size (encText (changesPaths xs)) (.slice A n c) := by
  have hl := Changes.n h
  obtain ⟨hc, hm⟩ := Changes.cap h
  subst hl
  have hput : changesPaths xs = if changesOk xs then setS (pathsL xs) else [] := by
    unfold changesPaths
    split
    · rename_i h9
      unfold changesOk at h9
      simp only [Bool.and_eq_true, decide_eq_true_eq] at h9
      exact sortS_set h9.2.2
    · rfl
  have hall : changesOk xs = true → xs.length ≤ 16 ∧ ∀ x ∈ xs, changeOk x = true := fun h9 => by
    unfold changesOk at h9
    simp only [Bool.and_eq_true, decide_eq_true_eq, List.all_eq_true] at h9
    exact ⟨h9.1, h9.2.1⟩
  obtain ⟨P, hP⟩ : ∃ P, P = changesPaths xs := ⟨_, rfl⟩
  rw [← hP] at hput ⊢
  obtain ⟨b, hbk⟩ : ∃ b, b = changesOk xs := ⟨_, rfl⟩
  have hcall := fun w' (hb : Below w.heap.size w w') => spec_l5Ok_any A xs.length c xs w' lo hi (h.keep hb hh) (Nat.le_trans hh hb.size) hz hs
  rw [← hbk] at hput hall
  simp only [← hbk] at hcall
  clear hP hbk hs
  have Hput := Lib.hid hput
  have Hall := Lib.hid hall
  clear hput hall
  have hrow0 : (w.alloc (.cells #[] 9)).ownsRow w.heap.size 9 1 (.slice (some ⟨w.heap.size, 0, none⟩) 0 0) 0 [] := World.ownsRow_made w #[] 0 (Nat.le_refl _) (Nat.zero_le _) rfl
  have hr0 : Rep (w.alloc (.cells #[] 9)) w.heap.size (w.alloc (.cells #[] 9)).heap.size (encText []) (.slice (some ⟨w.heap.size, 0, none⟩) 0 0) := Fresh.rep (Fresh.of_row hrow0 (owns_strs _ []))
  have hb0 : Below w.heap.size w (w.alloc (.cells #[] 9)) := (Below.refl _ _).alloc (Nat.le_refl _) _
  have Hr0 := Lib.hid hr0
  clear hr0 hrow0
  go_enter Tryd.func12, Tryd.ntmps12
  go_wp2_with fail
  refine Calls.mono (hcall _ hb0) ?_
  rintro e w1 ⟨rfl, hb1⟩
  have hs0 := hb0.size
  have hb01 : Below w.heap.size w w1 := hb0.trans (hb1.mono hs0)
  have hs1 := hb01.size
  have Hr1 := Lib.hid ((Hr0.out.keep hb1 (Nat.le_refl _)).mono (Nat.le_refl _) hb1.size)
  clear hcall hb1 hb0 Hr0 hs0
  cases b with
  | false =>
    go_wp2
    go_ret
    exact ⟨none, 0, 0, rfl, hb01, by rw [Hput.out]; exact Fresh.rep (Fresh.nil _ _ _ _ _)⟩
  | true =>
    obtain ⟨h16, hok⟩ := Hall.out rfl
    have Hok := Lib.hid hok
    clear hok
    go_wp2
    go_loopw [3, 4] (fun t i wr => ∃ (k : Nat) (A' : Option Addr) (n' c' : Nat), k ≤ xs.length ∧ i = .int .i64 k ∧ t = .slice A' n' c' ∧ Hid (Rep wr w.heap.size wr.heap.size (encText ((pathsL (xs.take k)).foldl insS [])) (.slice A' n' c')) ∧ Below w.heap.size w wr) (fun _ i _ => xs.length - (intOf i).toNat)
    case atStart => exact ⟨0, _, _, _, Nat.zero_le _, rfl, rfl, Lib.hid (by simpa [pathsL] using Hr1.out), hb01⟩
    case round =>
      clear Hr1
      obtain ⟨k, A', n', c', hk, rfl, rfl, hR, hb⟩ := hrel
      have hsz := hb.size
      by_cases hkn : k < xs.length
      · have hkn' : (k : Int) < (xs.length : Int) := by omega
        obtain ⟨b1, o1, x, rfl, _, hbhi, hx, A3, n3, c3, A4, n4, c4, d0, d1, d2, d3, r3, d4, r4⟩ := Changes.at (h.keep hb hh) hkn
        have hnx := pathsL_next hx
        rw [dest_kind (Hok.out x (List.mem_of_getElem? hx))] at hnx
        have hle := pathsL_len (xs.take k)
        have hle2 : (xs.take k).length ≤ 16 := by rw [List.length_take]; omega
        have hfl := foldS_len (pathsL (xs.take k)) []
        obtain ⟨L, hL⟩ : ∃ L, L = (pathsL (xs.take k)).foldl insS [] := ⟨_, rfl⟩
        rw [← hL] at hR hfl
        simp only [List.length_nil] at hfl
        have hLl : L.length ≤ 32 := by omega
        have hil := insS_len L x.path
        have Hnx := Lib.hid hnx
        have HL := Lib.hid hL
        obtain ⟨wo, rfl⟩ : ∃ wo : World, wo = wr := ⟨_, rfl⟩
        clear hx hnx hL hle hle2 hfl d0 d3 r3 d4 r4
        go_wp2_with fail
        refine Calls.mono (spec_l5Put_any A' n' c' L x.path _ w.heap.size wo.heap.size hR.out hsz (Nat.le_refl _) (by omega)) ?_
        rintro e w2 ⟨A5, n5, c5, rfl, hb2, hR2⟩
        have hb02 : Below w.heap.size w w2 := hb.trans (hb2.mono hsz)
        have hs2 := hb02.size
        have g2 : w2.cell? ⟨b1, o1 + k * 5 + 2, none⟩ = some (.string ⟨x.dest.toArray⟩) := (hb2.cell (p := ⟨b1, o1 + k * 5 + 2, none⟩) (by show b1 < wo.heap.size; omega)).trans d2
        have HR2 := Lib.hid hR2
        clear hR2 hR d1 d2 hb2
        cases e0 : x.dest.isEmpty
        · have hn2 : (pathsL (xs.take (k + 1))).foldl insS [] = insS (insS L x.path) x.dest := by rw [Hnx.out, e0, List.foldl_append, ← HL.out]; rfl
          have Hn2 := Lib.hid hn2
          clear hn2
          go_wp2_with fail
          refine Calls.mono (spec_l5Put_any A5 n5 c5 (insS L x.path) x.dest _ w.heap.size w2.heap.size HR2.out hs2 (Nat.le_refl _) (by omega)) ?_
          rintro e w3 ⟨A6, n6, c6, rfl, hb3, hR3⟩
          have hb03 : Below w.heap.size w w3 := hb02.trans (hb3.mono hs2)
          have HR3 := Lib.hid hR3
          clear hR3 hb3
          go_wp2
          go_roundw
          case rel => exact ⟨k + 1, _, _, _, by omega, by go_num, rfl, Lib.hid (by rw [Hn2.out]; exact HR3.out), hb03⟩
          case measure => first | (simp [intOf]; done) | (simp [intOf]; omega)
        · have hn2 : (pathsL (xs.take (k + 1))).foldl insS [] = insS L x.path := by rw [Hnx.out, e0, List.foldl_append, ← HL.out]; rfl
          have Hn2 := Lib.hid hn2
          clear hn2
          go_wp2
          go_roundw
          case rel => exact ⟨k + 1, _, _, _, by omega, by go_num, rfl, Lib.hid (by rw [Hn2.out]; exact HR2.out), hb02⟩
          case measure => first | (simp [intOf]; done) | (simp [intOf]; omega)
      · obtain rfl : k = xs.length := by omega
        have hR2 := hR.out
        rw [List.take_length] at hR2
        have HR2 := Lib.hid hR2
        clear hR2 hR
        go_wp2
        go_ret
        exact ⟨_, _, _, rfl, hb, by rw [Hput.out]; exact HR2.out⟩
end Go.Proofs.YtmilojppcleccaaDoor
