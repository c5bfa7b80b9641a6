/- Several of my texts in one: Copy, Same. -/
import Derived.Test.YtmickenajhppoaaGreatDoorZ10
import Derived.Deep.RegionHeld3
/- A cut of a slice, read as plain data; and the copy of a text. -/
namespace Go.Proofs.YtmickenajhppoaaGreatDoor
open Go.RowKit

theorem Rep.cut {w : World} {lo hi e n c : Nat} {A : Option Addr} {ps : List PV} (h : Rep w lo hi (.sl e 1 ps) (.slice A n c)) (i j : Nat) (hij : i ≤ j) (hj : j ≤ n) :
    Rep w lo hi (.sl e 1 ((ps.drop i).take (j - i))) (.slice (if c = i then A else A.map fun a => a.add i) (j - i) (c - i)) := by
  cases h with
  | sl us len cap max nil cell sub =>
    have hl : ((ps.drop i).take (j - i)).length = j - i := by rw [List.length_take, List.length_drop]; omega
    refine .sl (fun q => us (i + q)) (by rw [hl]; omega) (by omega) (by omega) (fun hA => ?_) (fun hn => ?_) (fun q p hq => ?_)
    · by_cases hc : c = i
      · omega
      · rw [if_neg hc] at hA
        have : A = none := by cases A <;> simp_all
        have := nil this
        omega
    · obtain ⟨b, o, rfl, h1, h2, hc⟩ := cell (by omega)
      refine ⟨b, o + i, by rw [if_neg (by omega)]; simp [Addr.add_lit], h1, h2, fun q hq => ?_⟩
      rw [hl] at hq
      rw [Nat.add_assoc]
      exact hc _ (by omega)
    · rw [List.getElem?_take] at hq
      split at hq
      · rw [List.getElem?_drop] at hq
        exact sub _ _ hq
      · cases hq
theorem Text.cut {w : World} {lo hi e n c : Nat} {A : Option Addr} {xs : List Str} (h : Rep w lo hi (encTextE e xs) (.slice A n c)) (i j : Nat) (hij : i ≤ j) (hj : j ≤ n) :
    Rep w lo hi (encTextE e ((xs.drop i).take (j - i))) (.slice (if c = i then A else A.map fun a => a.add i) (j - i) (c - i)) := by
  have := Rep.cut h i j hij hj
  have e1 : ∀ l : List Str, l.flatMap cText = l.map PV.str := fun l => by
    induction l with
    | nil => rfl
    | cons x xs ih => simp [cText, ih]
  unfold encTextE
  rw [e1] at this ⊢
  rwa [List.map_take, List.map_drop]

theorem sizeOf_run {P : Program} {e : TypeId} {i : TypeInfo} (hi : P.info? e = some i) (w : World) : (sizeOf e).run P w = .ok i.size w := by
  simp [sizeOf, typeInfo, hi]
/-- 't[i:j]', its address a letter. -/
theorem Tryz.cutText (A : Option Addr) (n c i j : Nat) (hij : i ≤ j) (hjc : j ≤ c) : ∃ A', A' = (if c = i then A else A.map fun a => a.add i) ∧
    (∀ W, (Instr.sliceAt 38 (.slice A n c) (some (.int .i64 i)) (some (.int .i64 j)) none).run Tryz.prog W = .ok (.slice A' (j - i) (c - i)) W) ∧
    (∀ W, (Instr.slice 38 (.slice A n c) (some (.int .i64 i)) (some (.int .i64 j)) none).run Tryz.prog W = .ok (.slice A' (j - i) (c - i)) W) := by
  have ht : Tryz.prog.underlying 38 = some (.slice (Tryz.prog.elem 38)) := by kernel_rfl
  obtain ⟨ii, hi0, hi1, hi2, hi3⟩ := info_parts Tryz.infoStr
  have he : Tryz.prog.elem 38 = 9 := by kernel_rfl
  have h : ∀ W, (Instr.slice 38 (.slice A n c) (some (.int .i64 i)) (some (.int .i64 j)) none).run Tryz.prog W = .ok (.slice (if c = i then A else A.map fun a => a.add i) (j - i) (c - i)) W := by
    intro W
    rw [run_slice_lh (h0 := by omega) (h1 := by omega) (h2 := by omega) (ht := ht), he, sizeOf_run hi0, hi2]
    simp [Result.andThen, sliced]
  exact ⟨_, rfl, fun W => by rw [run_sliceAt_slice (h := ht)]; exact h W, h⟩
theorem apart_row {v : Value} {r : Option Nat} (h : ∀ g, v.ownBlock = some g → r ≠ some g) : v.ownBlock = none ∨ v.ownBlock ≠ r := by
  cases hA : v.ownBlock with
  | none => exact .inl rfl
  | some g => exact .inr fun e => h g hA e.symm
theorem texts_one (xs : List Str) : ∀ u ∈ (xs.map fun s => (.string ⟨s.toArray⟩ : Value)), u.oneCell' = true := by
  intro u hu
  obtain ⟨s, _, rfl⟩ := List.mem_map.1 hu
  rfl
theorem own_text {w : World} {lo n c : Nat} {A : Option Addr} {xs : List Str} (h : w.ownsRow lo 9 1 (.slice A n c) n (xs.map fun s => .string ⟨s.toArray⟩)) : Own w (encText xs) (.slice A n c) (Value.slice A n c).ownBlock.toList := by
  refine ⟨n, _, [], ⟨h.1, ?_⟩, by simp, owns_strs w xs⟩
  rcases h.2 with h2 | ⟨g, cap, cur, r⟩
  · exact .inl h2
  · exact .inr ⟨g, cap, cur, r.1, Nat.zero_le _, r.2.2⟩
/-- A struct of one plain cell and two texts of its own. -/
theorem FreshL.two {w : World} {lo hi n5 n6 c5 c6 : Nat} {A5 A6 : Option Addr} {xs ys : List Str} {p0 : PV} {v0 : Value} (h0 : Own w p0 v0 []) (h5 : w.ownsRow lo 9 1 (.slice A5 n5 c5) n5 (xs.map fun s => .string ⟨s.toArray⟩))
    (h6 : w.ownsRow lo 9 1 (.slice A6 n6 c6) n6 (ys.map fun s => .string ⟨s.toArray⟩)) (hne : ∀ g, (Value.slice A5 n5 c5).ownBlock = some g → (Value.slice A6 n6 c6).ownBlock ≠ some g) (hh : w.heap.size ≤ hi) :
    FreshL w lo hi [p0, encText xs, encText ys] [v0, .slice A5 n5 c5, .slice A6 n6 c6] := by
  refine FreshL.plain h0 ⟨(Value.slice A5 n5 c5).ownBlock.toList ++ (Value.slice A6 n6 c6).ownBlock.toList, ⟨_, _, _, _, rfl, rfl, own_text h5, ⟨_, _, _, [], rfl, by simp, own_text h6, rfl, rfl⟩⟩, List.nodup_append.2 ⟨by cases (Value.slice A5 n5 c5).ownBlock <;> simp, by cases (Value.slice A6 n6 c6).ownBlock <;> simp, fun a ha b hb e => ?_⟩, fun k m => ?_⟩
  · subst e
    exact hne a (by simpa using ha) (by simpa using hb)
  · rcases List.mem_append.1 m with m | m
    · have := h5.lt k (by simpa using m); omega
    · have := h6.lt k (by simpa using m); omega
set_option maxHeartbeats 400000 in
theorem impl_copyText_any (A : Option Addr) (n c : Nat) (xs : List Str) (w : World) (lo hi : Nat) (h : Rep w lo hi (encText xs) (.slice A n c)) (hh : hi ≤ w.heap.size) (hn : xs.length ≤ 1048576) :
    Calls Tryz.prog 58 #[.slice A n c] w fun e w' => ∃ A' n' c', e = .returned (.slice A' n' c') ∧ Below w.heap.size w w' ∧ Fresh w' w.heap.size w'.heap.size (encText xs) (.slice A' n' c') := by
  have hl := Text.n h
  obtain ⟨hc, hm⟩ := Text.cap h
  subst hl
  obtain ⟨i, hi0, hi1, hi2, hi3⟩ := info_parts Tryz.infoStr
  have hb : Below w.heap.size w (w.alloc (.cells #[] 9)) := (Below.refl _ _).alloc (Nat.le_refl _) _
  have hS := Text.src (h.keep hb hh)
  go_enter Tryz.func58, Tryz.ntmps58
  go_wp2_with (at_builtin; refine wpList_append_src _ rfl (.tmp 3) (.tmp 4) _ rfl w.heap.size 9 i _ 1 16 Tryz.underlying38 hi0 hi1 hi2 hi3 rfl (by omega) _ 0 _ rfl (World.ownsRow_made w #[] 0 (Nat.le_refl _) (Nat.zero_le _) rfl) _ xs.length c _ rfl hS ?e2 ?e3 ?e4 ?e5 ?_)
  case e2 => intro u hu; simp at hu; obtain ⟨s, _, rfl⟩ := hu; rfl
  case e3 => unfold maxLen; omega
  case e4 => omega
  case e5 => simp
  intro A' c' w3 hown hg _
  have hb3 := hb.grown hg (by simp) (fun g hg => by simp [Value.ownBlock] at hg; omega)
  go_wp2
  go_ret
  exact ⟨_, _, _, rfl, hb3, Fresh.of_row hown (owns_strs _ _)⟩
end Go.Proofs.YtmickenajhppoaaGreatDoor

/- Two walks: the comparison of two texts by Go's library and by the reference. -/
namespace Go.Proofs.YtmickenajhppoaaGreatDoor
open Go.RowKit

set_option maxHeartbeats 400000 in
theorem slices_Equal_any (A1 A2 : Option Addr) (n1 c1 n2 c2 : Nat) (xs ys : List Str) (w : World) (lo hi lo' hi' : Nat) (h1 : Rep w lo hi (encText xs) (.slice A1 n1 c1)) (h2 : Rep w lo' hi' (encText ys) (.slice A2 n2 c2)) :
    Calls Tryz.prog 28 #[.slice A1 n1 c1, .slice A2 n2 c2] w fun e w' => e = .returned (.bool (decide (xs = ys))) ∧ ∃ k, w' = w.drewN k := by
  have hl1 := Text.n h1
  have hl2 := Text.n h2
  obtain ⟨hc1, hm1⟩ := Text.cap h1
  subst hl1 hl2
  by_cases hn : xs.length = ys.length
  · have hn' : ((xs.length : Int) != (ys.length : Int)) = false := by simp [hn]
    have Hn := Lib.hid hn
    clear hn
    go_enter Tryz.func28, Tryz.ntmps28
    go_wp2
    go_loopw [13] (fun i wr => ∃ k : Nat, k ≤ xs.length ∧ i = .int .i64 k ∧ Hid (xs.take k = ys.take k) ∧ ∃ m, wr = w.drewN m) (fun i _ => xs.length - (intOf i).toNat)
    case atStart => exact ⟨0, Nat.zero_le _, rfl, Lib.hid (by simp), 0, rfl⟩
    case round =>
      obtain ⟨k, hk, rfl, ht, m, rfl⟩ := hrel
      by_cases hlt : k < xs.length
      · obtain ⟨b1, o1, s1, rfl, _, _, hs1, hcell1⟩ := Text.at h1 hlt
        obtain ⟨b2, o2, s2, rfl, _, _, hs2, hcell2⟩ := Text.at h2 (k := k) (by have := Hn.out; omega)
        have hlt' : (k : Int) < (xs.length : Int) := by omega
        have hlt2 : (k : Int) < (ys.length : Int) := by have := Hn.out; omega
        have hkey : xs.take (k + 1) = ys.take (k + 1) ↔ s1 = s2 := by
          rw [List.take_add_one, List.take_add_one, hs1, hs2, ht.out]; simp
        have Hk := Lib.hid hkey
        have H1 := Lib.hid hs1
        have H2 := Lib.hid hs2
        clear hs1 hs2 hkey
        by_cases he : s1 = s2
        · subst he
          go_wp2
          go_quiet (fail)
          go_wp2
          go_roundw
          case rel => exact ⟨k + 1, by omega, by go_num, Lib.hid (Hk.out.2 (by simp)), m + nq, by simp⟩
          case measure => simp [intOf]; omega
        · have hb : (s1 == s2) = false := by simp [he]
          go_wp2
          go_quiet (fail)
          go_wp2
          go_ret
          refine ⟨?_, m + nq, by simp⟩
          have : xs ≠ ys := fun e => he (Hk.out.1 (by rw [e]))
          simp [this]
      · go_wp2
        go_ret
        refine ⟨?_, m, rfl⟩
        have : xs = ys := by
          have ht := ht.out
          have hn := Hn.out
          rwa [List.take_of_length_le (by omega), List.take_of_length_le (by omega)] at ht
        simp [this]
  · have hn' : ((xs.length : Int) != (ys.length : Int)) = true := by simp; omega
    go_enter Tryz.func28, Tryz.ntmps28
    go_wp2
    go_ret
    refine ⟨?_, 0, rfl⟩
    have : xs ≠ ys := fun e => hn (by rw [e])
    simp [this]

set_option maxHeartbeats 400000 in
theorem spec_l1Same_any (A1 A2 : Option Addr) (n1 c1 n2 c2 : Nat) (xs ys : List Str) (w : World) (lo hi lo' hi' : Nat) (h1 : Rep w lo hi (encText xs) (.slice A1 n1 c1)) (h2 : Rep w lo' hi' (encText ys) (.slice A2 n2 c2)) :
    Calls Tryz.prog 69 #[.slice A1 n1 c1, .slice A2 n2 c2] w fun e w' => e = .returned (.bool (decide (xs = ys))) ∧ ∃ k, w' = w.drewN k := by
  have hl1 := Text.n h1
  have hl2 := Text.n h2
  obtain ⟨hc1, hm1⟩ := Text.cap h1
  subst hl1 hl2
  by_cases hn : xs.length = ys.length
  · have hn' : ((xs.length : Int) != (ys.length : Int)) = false := by simp [hn]
    have Hn := Lib.hid hn
    clear hn
    go_enter Tryz.func69, Tryz.ntmps69
    go_wp2
    go_loopw [5] (fun i wr => ∃ k : Nat, k ≤ xs.length ∧ i = .int .i64 k ∧ Hid (xs.take k = ys.take k) ∧ ∃ m, wr = w.drewN m) (fun i _ => xs.length - (intOf i).toNat)
    case atStart => exact ⟨0, Nat.zero_le _, rfl, Lib.hid (by simp), 0, rfl⟩
    case round =>
      obtain ⟨k, hk, rfl, ht, m, rfl⟩ := hrel
      by_cases hlt : k < xs.length
      · obtain ⟨b1, o1, s1, rfl, _, _, hs1, hcell1⟩ := Text.at h1 hlt
        obtain ⟨b2, o2, s2, rfl, _, _, hs2, hcell2⟩ := Text.at h2 (k := k) (by have := Hn.out; omega)
        have hlt' : (k : Int) < (xs.length : Int) := by omega
        have hlt2 : (k : Int) < (ys.length : Int) := by have := Hn.out; omega
        have hkey : xs.take (k + 1) = ys.take (k + 1) ↔ s1 = s2 := by
          rw [List.take_add_one, List.take_add_one, hs1, hs2, ht.out]; simp
        have Hk := Lib.hid hkey
        have H1 := Lib.hid hs1
        have H2 := Lib.hid hs2
        clear hs1 hs2 hkey
        by_cases he : s1 = s2
        · subst he
          go_wp2
          go_quiet (fail)
          go_wp2
          go_roundw
          case rel => exact ⟨k + 1, by omega, by go_num, Lib.hid (Hk.out.2 (by simp)), m + nq, by simp⟩
          case measure => simp [intOf]; omega
        · have hb : (s1 == s2) = false := by simp [he]
          go_wp2
          go_quiet (fail)
          go_wp2
          go_ret
          refine ⟨?_, m + nq, by simp⟩
          have : xs ≠ ys := fun e => he (Hk.out.1 (by rw [e]))
          simp [this]
      · go_wp2
        go_ret
        refine ⟨?_, m, rfl⟩
        have : xs = ys := by
          have ht := ht.out
          have hn := Hn.out
          rwa [List.take_of_length_le (by omega), List.take_of_length_le (by omega)] at ht
        simp [this]
  · have hn' : ((xs.length : Int) != (ys.length : Int)) = true := by simp; omega
    go_enter Tryz.func69, Tryz.ntmps69
    go_wp2
    go_ret
    refine ⟨?_, 0, rfl⟩
    have : xs ≠ ys := fun e => hn (by rw [e])
    simp [this]

end Go.Proofs.YtmickenajhppoaaGreatDoor
