/- Several of my texts in one: Copy, Same, MergeMem. -/
import Derived.Test.YtenkceeicmfjhaaGreatDoorZ09
import Derived.Deep.RegionHeld3
import Derived.Test.YtenkceeicmfjhaaGreatDoorZ02
/- A cut of a slice, read as plain data; and the copy of a text. -/
namespace Go.Proofs.YtenkceeicmfjhaaGreatDoor
open Go.RowKit

theorem Rep.cut {w : World} {lo hi e n c : Nat} {A : Option Addr} {ps : List PV} (h : Rep w lo hi (.sl e 1 ps) (.slice A n c)) (i j : Nat) (hij : i ≤ j) (hj : j ≤ n) :
    Rep w lo hi (.sl e 1 ((ps.drop i).take (j - i))) (.slice (if c = i then A else A.map fun a => a.add i) (j - i) (c - i)) := by
  cases h with
  | sl us len cap max nil cell sub =>
    have hl : ((ps.drop i).take (j - i)).length = j - i := by rw [List.length_take, List.length_drop]; omega
    refine .sl (fun q => us (i + q)) (by rw [hl]; omega) (by omega) (by omega) (fun hA => ?_) (fun hn => ?_) (fun q p hq => ?_)
    · by_cases hc : c = i
      · omega
      · rw [if_neg hc] at hA
        have : A = none := by cases A <;> simp_all
        have := nil this
        omega
    · obtain ⟨b, o, rfl, h1, h2, hc⟩ := cell (by omega)
      refine ⟨b, o + i, by rw [if_neg (by omega)]; simp [Addr.add_lit], h1, h2, fun q hq => ?_⟩
      rw [hl] at hq
      rw [Nat.add_assoc]
      exact hc _ (by omega)
    · rw [List.getElem?_take] at hq
      split at hq
      · rw [List.getElem?_drop] at hq
        exact sub _ _ hq
      · cases hq
theorem Text.cut {w : World} {lo hi e n c : Nat} {A : Option Addr} {xs : List Str} (h : Rep w lo hi (encTextE e xs) (.slice A n c)) (i j : Nat) (hij : i ≤ j) (hj : j ≤ n) :
    Rep w lo hi (encTextE e ((xs.drop i).take (j - i))) (.slice (if c = i then A else A.map fun a => a.add i) (j - i) (c - i)) := by
  have := Rep.cut h i j hij hj
  have e1 : ∀ l : List Str, l.flatMap cText = l.map PV.str := fun l => by
    induction l with
    | nil => rfl
    | cons x xs ih => simp [cText, ih]
  unfold encTextE
  rw [e1] at this ⊢
  rwa [List.map_take, List.map_drop]

theorem sizeOf_run {P : Program} {e : TypeId} {i : TypeInfo} (hi : P.info? e = some i) (w : World) : (sizeOf e).run P w = .ok i.size w := by
  simp [sizeOf, typeInfo, hi]
/-- 't[i:j]', its address a letter. -/
theorem Tryz.cutText (A : Option Addr) (n c i j : Nat) (hij : i ≤ j) (hjc : j ≤ c) : ∃ A', A' = (if c = i then A else A.map fun a => a.add i) ∧
    (∀ W, (Instr.sliceAt 59 (.slice A n c) (some (.int .i64 i)) (some (.int .i64 j)) none).run Tryz.prog W = .ok (.slice A' (j - i) (c - i)) W) ∧
    (∀ W, (Instr.slice 59 (.slice A n c) (some (.int .i64 i)) (some (.int .i64 j)) none).run Tryz.prog W = .ok (.slice A' (j - i) (c - i)) W) := by
  have ht : Tryz.prog.underlying 59 = some (.slice (Tryz.prog.elem 59)) := by kernel_rfl
  obtain ⟨ii, hi0, hi1, hi2, hi3⟩ := info_parts Tryz.infoStr
  have he : Tryz.prog.elem 59 = 9 := by kernel_rfl
  have h : ∀ W, (Instr.slice 59 (.slice A n c) (some (.int .i64 i)) (some (.int .i64 j)) none).run Tryz.prog W = .ok (.slice (if c = i then A else A.map fun a => a.add i) (j - i) (c - i)) W := by
    intro W
    rw [run_slice_lh (h0 := by omega) (h1 := by omega) (h2 := by omega) (ht := ht), he, sizeOf_run hi0, hi2]
    simp [Result.andThen, sliced]
  exact ⟨_, rfl, fun W => by rw [run_sliceAt_slice (h := ht)]; exact h W, h⟩
theorem apart_row {v : Value} {r : Option Nat} (h : ∀ g, v.ownBlock = some g → r ≠ some g) : v.ownBlock = none ∨ v.ownBlock ≠ r := by
  cases hA : v.ownBlock with
  | none => exact .inl rfl
  | some g => exact .inr fun e => h g hA e.symm
theorem texts_one (xs : List Str) : ∀ u ∈ (xs.map fun s => (.string ⟨s.toArray⟩ : Value)), u.oneCell' = true := by
  intro u hu
  obtain ⟨s, _, rfl⟩ := List.mem_map.1 hu
  rfl
theorem own_text {w : World} {lo n c : Nat} {A : Option Addr} {xs : List Str} (h : w.ownsRow lo 9 1 (.slice A n c) n (xs.map fun s => .string ⟨s.toArray⟩)) : Own w (encText xs) (.slice A n c) (Value.slice A n c).ownBlock.toList := by
  refine ⟨n, _, [], ⟨h.1, ?_⟩, by simp, owns_strs w xs⟩
  rcases h.2 with h2 | ⟨g, cap, cur, r⟩
  · exact .inl h2
  · exact .inr ⟨g, cap, cur, r.1, Nat.zero_le _, r.2.2⟩
/-- A struct of one plain cell and two texts of its own. -/
theorem FreshL.two {w : World} {lo hi n5 n6 c5 c6 : Nat} {A5 A6 : Option Addr} {xs ys : List Str} {p0 : PV} {v0 : Value} (h0 : Own w p0 v0 []) (h5 : w.ownsRow lo 9 1 (.slice A5 n5 c5) n5 (xs.map fun s => .string ⟨s.toArray⟩))
    (h6 : w.ownsRow lo 9 1 (.slice A6 n6 c6) n6 (ys.map fun s => .string ⟨s.toArray⟩)) (hne : ∀ g, (Value.slice A5 n5 c5).ownBlock = some g → (Value.slice A6 n6 c6).ownBlock ≠ some g) (hh : w.heap.size ≤ hi) :
    FreshL w lo hi [p0, encText xs, encText ys] [v0, .slice A5 n5 c5, .slice A6 n6 c6] := by
  refine FreshL.plain h0 ⟨(Value.slice A5 n5 c5).ownBlock.toList ++ (Value.slice A6 n6 c6).ownBlock.toList, ⟨_, _, _, _, rfl, rfl, own_text h5, ⟨_, _, _, [], rfl, by simp, own_text h6, rfl, rfl⟩⟩, List.nodup_append.2 ⟨by cases (Value.slice A5 n5 c5).ownBlock <;> simp, by cases (Value.slice A6 n6 c6).ownBlock <;> simp, fun a ha b hb e => ?_⟩, fun k m => ?_⟩
  · subst e
    exact hne a (by simpa using ha) (by simpa using hb)
  · rcases List.mem_append.1 m with m | m
    · have := h5.lt k (by simpa using m); omega
    · have := h6.lt k (by simpa using m); omega
set_option maxHeartbeats 400000 in
theorem impl_copyText_any (A : Option Addr) (n c : Nat) (xs : List Str) (w : World) (lo hi : Nat) (h : Rep w lo hi (encText xs) (.slice A n c)) (hh : hi ≤ w.heap.size) (hn : xs.length ≤ 1048576) :
    Calls Tryz.prog 92 #[.slice A n c] w fun e w' => ∃ A' n' c', e = .returned (.slice A' n' c') ∧ Below w.heap.size w w' ∧ Fresh w' w.heap.size w'.heap.size (encText xs) (.slice A' n' c') := by
  have hl := Text.n h
  obtain ⟨hc, hm⟩ := Text.cap h
  subst hl
  obtain ⟨i, hi0, hi1, hi2, hi3⟩ := info_parts Tryz.infoStr
  have hb : Below w.heap.size w (w.alloc (.cells #[] 9)) := (Below.refl _ _).alloc (Nat.le_refl _) _
  have hS := Text.src (h.keep hb hh)
  go_enter Tryz.func92, Tryz.ntmps92
  go_wp2_with (at_builtin; refine wpList_append_src _ rfl (.tmp 3) (.tmp 4) _ rfl w.heap.size 9 i _ 1 16 Tryz.underlying59 hi0 hi1 hi2 hi3 rfl (by omega) _ 0 _ rfl (World.ownsRow_made w #[] 0 (Nat.le_refl _) (Nat.zero_le _) rfl) _ xs.length c _ rfl hS ?e2 ?e3 ?e4 ?e5 ?_)
  case e2 => intro u hu; simp at hu; obtain ⟨s, _, rfl⟩ := hu; rfl
  case e3 => unfold maxLen; omega
  case e4 => omega
  case e5 => simp
  intro A' c' w3 hown hg _
  have hb3 := hb.grown hg (by simp) (fun g hg => by simp [Value.ownBlock] at hg; omega)
  go_wp2
  go_ret
  exact ⟨_, _, _, rfl, hb3, Fresh.of_row hown (owns_strs _ _)⟩
end Go.Proofs.YtenkceeicmfjhaaGreatDoor

/- Two walks: the comparison of two texts by Go's library and by the reference. -/
namespace Go.Proofs.YtenkceeicmfjhaaGreatDoor
open Go.RowKit

set_option maxHeartbeats 400000 in
theorem slices_Equal_any (A1 A2 : Option Addr) (n1 c1 n2 c2 : Nat) (xs ys : List Str) (w : World) (lo hi lo' hi' : Nat) (h1 : Rep w lo hi (encText xs) (.slice A1 n1 c1)) (h2 : Rep w lo' hi' (encText ys) (.slice A2 n2 c2)) :
    Calls Tryz.prog 104 #[.slice A1 n1 c1, .slice A2 n2 c2] w fun e w' => e = .returned (.bool (decide (xs = ys))) ∧ ∃ k, w' = w.drewN k := by
  have hl1 := Text.n h1
  have hl2 := Text.n h2
  obtain ⟨hc1, hm1⟩ := Text.cap h1
  subst hl1 hl2
  by_cases hn : xs.length = ys.length
  · have hn' : ((xs.length : Int) != (ys.length : Int)) = false := by simp [hn]
    have Hn := Lib.hid hn
    clear hn
    go_enter Tryz.func104, Tryz.ntmps104
    go_wp2
    go_loopw [13] (fun i wr => ∃ k : Nat, k ≤ xs.length ∧ i = .int .i64 k ∧ Hid (xs.take k = ys.take k) ∧ ∃ m, wr = w.drewN m) (fun i _ => xs.length - (intOf i).toNat)
    case atStart => exact ⟨0, Nat.zero_le _, rfl, Lib.hid (by simp), 0, rfl⟩
    case round =>
      obtain ⟨k, hk, rfl, ht, m, rfl⟩ := hrel
      by_cases hlt : k < xs.length
      · obtain ⟨b1, o1, s1, rfl, _, _, hs1, hcell1⟩ := Text.at h1 hlt
        obtain ⟨b2, o2, s2, rfl, _, _, hs2, hcell2⟩ := Text.at h2 (k := k) (by have := Hn.out; omega)
        have hlt' : (k : Int) < (xs.length : Int) := by omega
        have hlt2 : (k : Int) < (ys.length : Int) := by have := Hn.out; omega
        have hkey : xs.take (k + 1) = ys.take (k + 1) ↔ s1 = s2 := by
          rw [List.take_add_one, List.take_add_one, hs1, hs2, ht.out]; simp
        have Hk := Lib.hid hkey
        have H1 := Lib.hid hs1
        have H2 := Lib.hid hs2
        clear hs1 hs2 hkey
        by_cases he : s1 = s2
        · subst he
          go_wp2
          go_quiet (fail)
          go_wp2
          go_roundw
          case rel => exact ⟨k + 1, by omega, by go_num, Lib.hid (Hk.out.2 (by simp)), m + nq, by simp⟩
          case measure => simp [intOf]; omega
        · have hb : (s1 == s2) = false := by simp [he]
          go_wp2
          go_quiet (fail)
          go_wp2
          go_ret
          refine ⟨?_, m + nq, by simp⟩
          have : xs ≠ ys := fun e => he (Hk.out.1 (by rw [e]))
          simp [this]
      · go_wp2
        go_ret
        refine ⟨?_, m, rfl⟩
        have : xs = ys := by
          have ht := ht.out
          have hn := Hn.out
          rwa [List.take_of_length_le (by omega), List.take_of_length_le (by omega)] at ht
        simp [this]
  · have hn' : ((xs.length : Int) != (ys.length : Int)) = true := by simp; omega
    go_enter Tryz.func104, Tryz.ntmps104
    go_wp2
    go_ret
    refine ⟨?_, 0, rfl⟩
    have : xs ≠ ys := fun e => hn (by rw [e])
    simp [this]

set_option maxHeartbeats 400000 in
theorem spec_l1Same_any (A1 A2 : Option Addr) (n1 c1 n2 c2 : Nat) (xs ys : List Str) (w : World) (lo hi lo' hi' : Nat) (h1 : Rep w lo hi (encText xs) (.slice A1 n1 c1)) (h2 : Rep w lo' hi' (encText ys) (.slice A2 n2 c2)) :
    Calls Tryz.prog 94 #[.slice A1 n1 c1, .slice A2 n2 c2] w fun e w' => e = .returned (.bool (decide (xs = ys))) ∧ ∃ k, w' = w.drewN k := by
  have hl1 := Text.n h1
  have hl2 := Text.n h2
  obtain ⟨hc1, hm1⟩ := Text.cap h1
  subst hl1 hl2
  by_cases hn : xs.length = ys.length
  · have hn' : ((xs.length : Int) != (ys.length : Int)) = false := by simp [hn]
    have Hn := Lib.hid hn
    clear hn
    go_enter Tryz.func94, Tryz.ntmps94
    go_wp2
    go_loopw [5] (fun i wr => ∃ k : Nat, k ≤ xs.length ∧ i = .int .i64 k ∧ Hid (xs.take k = ys.take k) ∧ ∃ m, wr = w.drewN m) (fun i _ => xs.length - (intOf i).toNat)
    case atStart => exact ⟨0, Nat.zero_le _, rfl, Lib.hid (by simp), 0, rfl⟩
    case round =>
      obtain ⟨k, hk, rfl, ht, m, rfl⟩ := hrel
      by_cases hlt : k < xs.length
      · obtain ⟨b1, o1, s1, rfl, _, _, hs1, hcell1⟩ := Text.at h1 hlt
        obtain ⟨b2, o2, s2, rfl, _, _, hs2, hcell2⟩ := Text.at h2 (k := k) (by have := Hn.out; omega)
        have hlt' : (k : Int) < (xs.length : Int) := by omega
        have hlt2 : (k : Int) < (ys.length : Int) := by have := Hn.out; omega
        have hkey : xs.take (k + 1) = ys.take (k + 1) ↔ s1 = s2 := by
          rw [List.take_add_one, List.take_add_one, hs1, hs2, ht.out]; simp
        have Hk := Lib.hid hkey
        have H1 := Lib.hid hs1
        have H2 := Lib.hid hs2
        clear hs1 hs2 hkey
        by_cases he : s1 = s2
        · subst he
          go_wp2
          go_quiet (fail)
          go_wp2
          go_roundw
          case rel => exact ⟨k + 1, by omega, by go_num, Lib.hid (Hk.out.2 (by simp)), m + nq, by simp⟩
          case measure => simp [intOf]; omega
        · have hb : (s1 == s2) = false := by simp [he]
          go_wp2
          go_quiet (fail)
          go_wp2
          go_ret
          refine ⟨?_, m + nq, by simp⟩
          have : xs ≠ ys := fun e => he (Hk.out.1 (by rw [e]))
          simp [this]
      · go_wp2
        go_ret
        refine ⟨?_, m, rfl⟩
        have : xs = ys := by
          have ht := ht.out
          have hn := Hn.out
          rwa [List.take_of_length_le (by omega), List.take_of_length_le (by omega)] at ht
        simp [this]
  · have hn' : ((xs.length : Int) != (ys.length : Int)) = true := by simp; omega
    go_enter Tryz.func94, Tryz.ntmps94
    go_wp2
    go_ret
    refine ⟨?_, 0, rfl⟩
    have : xs ≠ ys := fun e => hn (by rw [e])
    simp [this]

end Go.Proofs.YtenkceeicmfjhaaGreatDoor

/- A row of structs in blocks of its own, the blocks listed: a struct behind it, one cell of one struct replaced. -/
namespace Go.Proofs.YtenkceeicmfjhaaGreatDoor
open Go.RowKit

theorem Only.of_grown {w w' : World} {row : Option Nat} {F : List Nat} (h : w.grownBy w' row) (hF : ∀ g, row = some g → g ∈ F) : Only F w w' :=
  ⟨h.os, h.tape, h.output, h.size, fun k hk hn => h.block k hk (fun e => hn (hF k e.symm))⟩
theorem ownsRow_zero {w : World} {base e z n : Nat} {v : Value} {us : List Value} (h : w.ownsRow base e z v n us) : w.ownsRow 0 e z v n us := by
  refine ⟨h.1, ?_⟩
  rcases h.2 with h2 | ⟨g, cap, cur, r1, _, r3⟩
  · exact .inl h2
  · exact .inr ⟨g, cap, cur, r1, Nat.zero_le _, r3⟩
/-- A row with a bound below: the least of it is what the blocks say. -/
theorem ownsRow_at {w : World} {base e z n : Nat} {v : Value} {us : List Value} (h : w.ownsRow 0 e z v n us) (hb : ∀ g, v.ownBlock = some g → base ≤ g) : w.ownsRow base e z v n us := by
  refine ⟨h.1, ?_⟩
  rcases h.2 with h2 | ⟨g, cap, cur, rfl, _, r3⟩
  · exact .inl h2
  · exact .inr ⟨g, cap, cur, rfl, hb g rfl, r3⟩
/-- A row of its own has grown by cells that own their blocks. -/
theorem Own.grew {w w' : World} {e z n' : Nat} {ps qs : List PV} {us news : List Value} {v v' : Value} {G F' : List Nat} (ho : Owns w ps us G) (hnd : (v.ownBlock.toList ++ G).Nodup) (hlt : ∀ k ∈ v.ownBlock.toList ++ G, k < w.heap.size)
    (hnew : Owns w qs news F') (hn' : F'.Nodup) (hdis : ∀ k ∈ F', k ∉ v.ownBlock.toList ++ G) (hlt' : ∀ k ∈ F', k < w.heap.size) (h' : w'.ownsRow 0 e z v' n' (us ++ news)) (hg : w.grownBy w' v.ownBlock)
    (hblk : v'.ownBlock = v.ownBlock ∨ v'.ownBlock = some w.heap.size) :
    Own w' (.sl e z (ps ++ qs)) v' (v'.ownBlock.toList ++ (G ++ F')) ∧ (v'.ownBlock.toList ++ (G ++ F')).Nodup ∧ ∀ k ∈ v'.ownBlock.toList ++ (G ++ F'), k ∈ v.ownBlock.toList ++ G ∨ k ∈ F' ∨ k = w.heap.size := by
  have hG : ∀ k ∈ G, k < w.heap.size ∧ v.ownBlock ≠ some k := fun k hk => ⟨hlt k (List.mem_append_right _ hk), fun e => (List.nodup_append.1 hnd).2.2 k (by simp [e]) k hk rfl⟩
  have hF' : ∀ k ∈ F', k < w.heap.size ∧ v.ownBlock ≠ some k := fun k hk => ⟨hlt' k hk, fun e => hdis k hk (List.mem_append_left _ (by simp [e]))⟩
  have hall : Owns w' (ps ++ qs) (us ++ news) (G ++ F') :=
    (Owns.same _ _ _ ho fun k hk => hg.block k (hG k hk).1 (fun e => (hG k hk).2 e.symm)).append (Owns.same _ _ _ hnew fun k hk => hg.block k (hF' k hk).1 (fun e => (hF' k hk).2 e.symm))
  refine ⟨⟨n', us ++ news, G ++ F', h', rfl, hall⟩, List.nodup_append.2 ⟨by cases v'.ownBlock <;> simp, List.nodup_append.2 ⟨(List.nodup_append.1 hnd).2.1, hn', fun a ha b hb' e => ?_⟩, fun a ha b hb' e => ?_⟩, fun k m => ?_⟩
  · subst e; exact hdis a hb' (List.mem_append_right _ ha)
  · subst e
    have ha' : v'.ownBlock = some a := by simpa using ha
    rcases List.mem_append.1 hb' with m | m
    · rcases hblk with e | e
      · exact (hG a m).2 (e ▸ ha')
      · rw [e] at ha'; have := (hG a m).1; simp at ha'; omega
    · rcases hblk with e | e
      · exact (hF' a m).2 (e ▸ ha')
      · rw [e] at ha'; have := (hF' a m).1; simp at ha'; omega
  · rcases List.mem_append.1 m with m | m
    · have hm : v'.ownBlock = some k := by simpa using m
      rcases hblk with e | e
      · exact .inl (List.mem_append_left _ (by rw [← e, hm]; simp))
      · rw [e] at hm; simp at hm; exact .inr (.inr hm.symm)
    rcases List.mem_append.1 m with m | m
    · exact .inl (List.mem_append_right _ m)
    · exact .inr (.inl m)
/-- One cell of one struct of a row of its own, a row itself, has been replaced by another row: the first one grown, or a new one. -/
theorem Own.replaced {w w5 : World} {α : Type} {f : α → List PV} {e z e1 z1 n c g j i m5 : Nat} (hf : ∀ x, (f x).length = z) {ys : List α} {y y' : α} {us : List Value} {G : List Nat} {p1' : PV} {p1 : List PV} {v1 v5 : Value} {us5 : List Value}
    (hrow : w.ownsRow 0 e z (.slice (some ⟨g, 0, none⟩) n c) n us) (ho : Owns w (ys.flatMap f) us G) (hnd : ((Value.slice (some ⟨g, 0, none⟩) n c).ownBlock.toList ++ G).Nodup) (hlt : ∀ k ∈ G, k < w.heap.size)
    (hy : ys[i]? = some y) (hj : j < z) (hp : (f y)[j]? = some p1') (hv1 : us[i * z + j]? = some v1)
    (hown1 : ∀ F1, Own w p1' v1 F1 → F1 = v1.ownBlock.toList)
    (hy' : f y' = (f y).set j (.sl e1 z1 p1)) (h5 : w5.ownsRow 0 e1 z1 v5 m5 us5) (ho5 : ∀ w : World, Owns w p1 us5 []) (hg5 : w.grownBy w5 v1.ownBlock) (hblk : v5.ownBlock = v1.ownBlock ∨ v5.ownBlock = some w.heap.size) :
    ∃ F', Own (w5.setCell ⟨g, i * z + j, none⟩ v5) (.sl e z ((ys.set i y').flatMap f)) (.slice (some ⟨g, 0, none⟩) n c) F' ∧ F'.Nodup ∧ (∀ k ∈ F', k ∈ (Value.slice (some ⟨g, 0, none⟩) n c).ownBlock.toList ++ G ∨ k = w.heap.size) ∧
      Only ((Value.slice (some ⟨g, 0, none⟩) n c).ownBlock.toList ++ G) w (w5.setCell ⟨g, i * z + j, none⟩ v5) := by
  have hpj : (ys.flatMap f)[i * z + j]? = some p1' := by rw [flatMap_at hf ys i j hj, hy]; exact hp
  obtain ⟨u, Fa, F1, Fb, hu, hF, hou, hset⟩ := Owns.at ho hpj
  obtain rfl : v1 = u := Option.some.inj (hv1.symm.trans hu)
  obtain rfl := hown1 F1 hou
  subst hF
  have hnd' : (g :: (Fa ++ (v1.ownBlock.toList ++ Fb))).Nodup := hnd
  obtain ⟨hgG, hGn⟩ := List.nodup_cons.1 hnd'
  have hglt : g < w.heap.size := (hrow.lt g rfl).2
  have hg1 : v1.ownBlock ≠ some g := fun e => hgG (List.mem_append_right _ (List.mem_append_left _ (by rw [e]; simp)))
  have hrow5 := hrow.kept hg5 (.inr (fun e => hg1 e.symm))
  have hst := hrow5.stored (i * z + j) v5
  have hmid := nodup_mid hGn
  have hsz := hg5.size
  have hkeep : ∀ k ∈ Fa ++ Fb, (w5.setCell ⟨g, i * z + j, none⟩ v5).heap[k]? = w.heap[k]? := fun k hk => by
    have hkG : k ∈ Fa ++ (v1.ownBlock.toList ++ Fb) := by rcases List.mem_append.1 hk with m | m <;> simp [m]
    have hkl := hlt k hkG
    rw [hst.2.block k (by omega) (fun e => hgG (by have : k = g := by simpa using e
                                                   rw [← this]; exact hkG))]
    exact hg5.block k hkl (fun e => hmid.2 k hk (by rw [← e]; simp))
  have hv5g : v5.ownBlock ≠ some g := by
    rcases hblk with e | e
    · rw [e]; exact hg1
    · rw [e]; intro h; simp at h; omega
  have h5' : (w5.setCell ⟨g, i * z + j, none⟩ v5).ownsRow 0 e1 z1 v5 m5 us5 := h5.kept hst.2 (.inr hv5g)
  have hnewO : Own (w5.setCell ⟨g, i * z + j, none⟩ v5) (.sl e1 z1 p1) v5 v5.ownBlock.toList := ⟨m5, us5, [], h5', by simp, ho5 _⟩
  have hO := hset _ _ v5 _ hkeep hnewO
  rw [flatMap_set_one hf ys i y hy hj hy'] at hO
  have hin : ∀ k, v5.ownBlock = some k → k ∈ v1.ownBlock.toList ∨ k = w.heap.size := fun k hk => by
    rcases hblk with e | e
    · left; rw [← e, hk]; simp
    · right; rw [e] at hk; simpa using hk.symm
  refine ⟨g :: (Fa ++ (v5.ownBlock.toList ++ Fb)), ⟨n, _, _, hst.1, by simp [Value.ownBlock], hO⟩, List.nodup_cons.2 ⟨fun m => ?_, ?_⟩, fun k m => ?_, ?_⟩
  · rcases List.mem_append.1 m with m | m
    · exact hgG (by simp [m])
    rcases List.mem_append.1 m with m | m
    · exact hv5g (by simpa using m)
    · exact hgG (by simp [m])
  · rw [List.nodup_append, List.nodup_append] at hGn
    obtain ⟨a1, ⟨a2, a3, a4⟩, a5⟩ := hGn
    have hnew : ∀ k, v5.ownBlock = some k → k ∉ Fa ∧ k ∉ Fb := fun k hk => by
      rcases hin k hk with m | m
      · exact ⟨fun h => a5 k h k (List.mem_append_left _ m) rfl, fun h => a4 k m k h rfl⟩
      · refine ⟨fun h => ?_, fun h => ?_⟩
        · have := hlt k (by simp [h]); omega
        · have := hlt k (by simp [h]); omega
    rw [List.nodup_append, List.nodup_append]
    refine ⟨a1, ⟨by cases v5.ownBlock <;> simp, a3, fun a ha b hb e => ?_⟩, fun a ha b hb e => ?_⟩
    · subst e; exact (hnew a (by simpa using ha)).2 hb
    · subst e
      rcases List.mem_append.1 hb with m | m
      · exact (hnew a (by simpa using m)).1 ha
      · exact a5 a ha a (List.mem_append_right _ m) rfl
  · rcases List.mem_cons.1 m with rfl | m
    · left; simp [Value.ownBlock]
    rcases List.mem_append.1 m with m | m
    · left; simp [m]
    rcases List.mem_append.1 m with m | m
    · rcases hin k (by simpa using m) with h | h
      · left; simp at h; simp [h]
      · exact .inr h
    · left; simp [m]
  · refine (Only.of_grown hg5 (fun q hq => ?_)).setCell (by simp [Value.ownBlock]) v5
    simp [hq]
end Go.Proofs.YtenkceeicmfjhaaGreatDoor
