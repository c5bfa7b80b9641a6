/- Several of my texts in one: PathsPut, L6Paths. -/
import Derived.Test.YtenkceeicmfjhaaGreatDoorSortPlain
import Derived.Test.YtenkceeicmfjhaaGreatDoorZ09
import Derived.Test.YtenkceeicmfjhaaGreatDoorZ11
import Derived.Test.YtenkceeicmfjhaaGreatDoorZ13
import Derived.Deep.Cut
import Derived.Test.YtenkceeicmfjhaaGreatDoorJoinPlain
/- Walk: the reference's l5Put: a text put among others in order, once. -/
namespace Go.Proofs.YtenkceeicmfjhaaGreatDoor
open Go.RowKit

theorem insS_split : ∀ (a b : List Str) (s : Str), (∀ y ∈ a, ltS y s = true) → insS (a ++ b) s = a ++ insS b s
  | [], _, _, _ => rfl
  | y :: a, b, s, h => by
    rw [List.cons_append, List.cons_append, ← insS_split a b s (fun z hz => h z (List.mem_cons_of_mem _ hz))]
    show (if ltS y s then y :: insS (a ++ b) s else if y = s then y :: (a ++ b) else s :: y :: (a ++ b)) = _
    rw [if_pos (h y List.mem_cons_self)]
theorem insS_at {xs : List Str} {k : Nat} {y s : Str} (hy : xs[k]? = some y) (h : ∀ z ∈ xs.take k, ltS z s = true) (hl : ltS y s = false) : insS xs s = if y = s then xs else xs.take k ++ [s] ++ xs.drop k := by
  have hd : xs.drop k = y :: xs.drop (k + 1) := by
    obtain ⟨hk, rfl⟩ := List.getElem?_eq_some_iff.1 hy
    exact List.drop_eq_getElem_cons hk
  have := insS_split (xs.take k) (xs.drop k) s h
  rw [List.take_append_drop] at this
  rw [this, hd]
  unfold insS
  rw [hl]
  simp only [Bool.false_eq_true, if_false]
  split
  · rw [← hd, List.take_append_drop]
  · simp
theorem insS_end {xs : List Str} {s : Str} (h : ∀ z ∈ xs, ltS z s = true) : insS xs s = xs ++ [s] := by
  have := insS_split xs [] s h
  rwa [List.append_nil] at this

/-- 't[:j]', its address a letter. -/
theorem Tryz.cutTo (A : Option Addr) (n c j : Nat) (hjc : j ≤ c) : ∃ A', A' = (if c = 0 then A else A.map fun a => a.add 0) ∧
    (∀ W, (Instr.sliceAt 59 (.slice A n c) none (some (.int .i64 j)) none).run Tryz.prog W = .ok (.slice A' j c) W) ∧
    (∀ W, (Instr.slice 59 (.slice A n c) none (some (.int .i64 j)) none).run Tryz.prog W = .ok (.slice A' j c) W) := by
  have ht : Tryz.prog.underlying 59 = some (.slice (Tryz.prog.elem 59)) := by kernel_rfl
  obtain ⟨ii, hi0, hi1, hi2, hi3⟩ := info_parts Tryz.infoStr
  have he : Tryz.prog.elem 59 = 9 := by kernel_rfl
  have h : ∀ W, (Instr.slice 59 (.slice A n c) none (some (.int .i64 j)) none).run Tryz.prog W = .ok (.slice (if c = 0 then A else A.map fun a => a.add 0) j c) W := by
    intro W
    rw [run_slice_h (h0 := by omega) (h2 := by omega) (ht := ht), he, sizeOf_run hi0, hi2]
    simp [Result.andThen, sliced]
  exact ⟨_, rfl, fun W => by rw [run_sliceAt_slice (h := ht)]; exact h W, h⟩
/-- 't[i:]', its address a letter. -/
theorem Tryz.cutOff (A : Option Addr) (n c i : Nat) (hij : i ≤ n) : ∃ A', A' = (if c = i then A else A.map fun a => a.add i) ∧
    (∀ W, (Instr.sliceAt 59 (.slice A n c) (some (.int .i64 i)) none none).run Tryz.prog W = .ok (.slice A' (n - i) (c - i)) W) ∧
    (∀ W, (Instr.slice 59 (.slice A n c) (some (.int .i64 i)) none none).run Tryz.prog W = .ok (.slice A' (n - i) (c - i)) W) := by
  have ht : Tryz.prog.underlying 59 = some (.slice (Tryz.prog.elem 59)) := by kernel_rfl
  obtain ⟨ii, hi0, hi1, hi2, hi3⟩ := info_parts Tryz.infoStr
  have he : Tryz.prog.elem 59 = 9 := by kernel_rfl
  have h : ∀ W, (Instr.slice 59 (.slice A n c) (some (.int .i64 i)) none none).run Tryz.prog W = .ok (.slice (if c = i then A else A.map fun a => a.add i) (n - i) (c - i)) W := by
    intro W
    rw [run_slice_l (h0 := by omega) (h1 := by omega) (ht := ht), he, sizeOf_run hi0, hi2]
    simp [Result.andThen, sliced]
  exact ⟨_, rfl, fun W => by rw [run_sliceAt_slice (h := ht)]; exact h W, h⟩
set_option maxRecDepth 100000 in
set_option maxHeartbeats 2000000 in
theorem spec_l5Put_any (A : Option Addr) (n c : Nat) (xs : List Str) (s : Str) (w : World) (lo hi : Nat) (h : Rep w lo hi (encText xs) (.slice A n c)) (hlo : lo ≤ w.heap.size) (hh : hi ≤ w.heap.size) (hx : xs.length ≤ 1000000) :
    Calls Tryz.prog 77 #[.slice A n c, .string ⟨s.toArray⟩] w fun e w' => ∃ A n c, e = .returned (.slice A n c) ∧ Below w.heap.size w w' ∧ Rep w' lo w'.heap.size (encText (insS xs s)) (.slice A n c) := by
  have hl := Text.n h
  obtain ⟨hc, hm⟩ := Text.cap h
  subst hl
  obtain ⟨is, si0, si1, si2, si3⟩ := info_parts Tryz.infoStr
  obtain ⟨R, hR⟩ : ∃ R, R = insS xs s := ⟨_, rfl⟩
  rw [← hR]
  have HR := Lib.hid hR
  clear hR
  go_enter Tryz.func77, Tryz.ntmps77
  go_wp2
  go_loopw [5] (fun i wr => ∃ k : Nat, k ≤ xs.length ∧ i = .int .i64 k ∧ Hid (∀ z ∈ xs.take k, ltS z s = true) ∧ wr = w) (fun i _ => xs.length - (intOf i).toNat)
  case atStart => exact ⟨0, Nat.zero_le _, rfl, Lib.hid (by simp), rfl⟩
  case round =>
    obtain ⟨k, hk, rfl, ht, rfl⟩ := hrel
    by_cases hkn : k < xs.length
    · have hkn' : (k : Int) < (xs.length : Int) := by omega
      obtain ⟨b1, o1, y, rfl, _, _, hy, d0⟩ := Text.at h hkn
      cases hlt : ltS y s
      · have hins := insS_at hy ht.out hlt
        have hl2 := hlt
        unfold ltS at hl2
        by_cases hys : y = s
        · have hys2 : (y == s) = true := by simp [hys]
          rw [if_pos hys] at hins
          have Hins := Lib.hid hins
          clear hins hlt hy hys
          go_wp2
          go_ret
          exact ⟨_, _, _, rfl, Below.refl _ _, by rw [HR.out, Hins.out]; exact h.mono (Nat.le_refl _) hh⟩
        · have hys2 : (y == s) = false := by simp [hys]
          rw [if_neg hys] at hins
          have Hins := Lib.hid hins
          clear hins hlt hy hys
          go_upto_region 6 with fail
-- TAIL k
          obtain ⟨A, hA⟩ : ∃ A : Option Addr, A = some ⟨b1, o1, none⟩ := ⟨_, rfl⟩
          rw [← hA] at h
          rw [← hA]
          clear hA d0

          obtain ⟨C1, eC1, hq1, hq1'⟩ := Tryz.cutTo A xs.length c k (by omega)
          obtain ⟨C2, eC2, hq2, hq2'⟩ := Tryz.cutOff A xs.length c k (by omega)
          have U1 := Text.cut h 0 k (Nat.zero_le _) (by omega)
          have U2 := Text.cut h k xs.length (by omega) (Nat.le_refl _)
          simp only [List.drop_zero, Nat.sub_zero] at U1
          rw [← eC1] at U1
          rw [← eC2, List.take_of_length_le (by simp)] at U2
          clear eC1 eC2
          have hb0 : Below wr.heap.size wr (wr.alloc (.cells #[] 9)) := (Below.refl _ _).alloc (Nat.le_refl _) _
          have hS1 := Text.src (U1.keep hb0 hh)
          have hlt1 : (xs.take k).length = k := by simp; try omega
          go_wp2_with (at_builtin; refine wpList_append_src _ rfl (.tmp 34) (.tmp 37) _ rfl wr.heap.size 9 is _ 1 16 Tryz.underlying59 si0 si1 si2 si3 rfl (by omega) _ 0 _ rfl (World.ownsRow_made wr #[] 0 (Nat.le_refl _) (Nat.zero_le _) rfl) _ k c _ rfl hS1 (texts_one _) ?e3 ?e4 ?e5 ?_)
          case e3 => unfold maxLen; omega
          case e4 => omega
          try (case e5 => simp)
          intro A5 c5 w5 hown5 hg5 _
          have hb5 : Below wr.heap.size wr w5 := hb0.grown hg5 (by simp) (fun g hg => by simp [Value.ownBlock] at hg; omega)
          have hs5 := hb5.size
          clear hg5 hS1 hb0
          go_wp2_with (at_builtin; refine wpList_append_src _ rfl (.tmp 39) (.tmp 41) _ rfl wr.heap.size 9 is _ 1 16 Tryz.underlying59 si0 si1 si2 si3 rfl (by omega) _ k _ rfl (hown5.alloc _) _ 1 1 [.string ⟨s.toArray⟩] rfl (Src.lit w5 9 [.string ⟨s.toArray⟩] 1 1 rfl) ?f2 ?f3 ?f4 ?f5 ?_)
          case f2 => first | rfl | (intro u hu; simp at hu; subst hu; rfl)
          case f3 => unfold maxLen; omega
          case f4 => omega
          try (case f5 => first | omega | (simp; omega))
          intro A6 c6 w6 hown6 hg6 _
          have hb6 : Below wr.heap.size wr w6 := (hb5.alloc (by omega) _).grown hg6 (by simp; omega) (fun g hg => (hown5.lt g hg).1)
          have hs6 := hb6.size
          clear hg6
          have hS2 := Text.src (U2.keep hb6 hh)
          go_wp2_with (at_builtin; refine wpList_append_src _ rfl (.tmp 43) (.tmp 46) _ rfl wr.heap.size 9 is _ 1 16 Tryz.underlying59 si0 si1 si2 si3 rfl (by omega) _ (k + 1) _ rfl hown6 _ (xs.length - k) (c - k) _ rfl hS2 (texts_one _) ?g3 ?g4 ?g5 ?_)
          case g3 => unfold maxLen; omega
          case g4 => omega
          try (case g5 => first | omega | (simp; omega))
          intro A7 c7 w7 hown7 hg7 _
          have hb7 : Below wr.heap.size wr w7 := hb6.grown hg7 (by omega) (fun g hg => (hown6.lt g hg).1)
          clear hg7 hS2
          have hfr : Fresh w7 wr.heap.size w7.heap.size (encText (xs.take k ++ [s] ++ xs.drop k)) (.slice A7 (k + 1 + (xs.length - k)) c7) :=
            Fresh.of_row hown7 (by have := owns_strs w7 (xs.take k ++ [s] ++ xs.drop k); simpa [List.map_append, List.map_drop, List.map_take] using this)
          have Hfr := Lib.hid hfr
          clear hfr hown7 hown6 hown5
          go_wp2
          go_ret
          exact ⟨_, _, _, rfl, hb7, by rw [HR.out, Hins.out]; exact (Fresh.rep Hfr.out).mono hlo (Nat.le_refl _)⟩
-- END
      · have hl2 := hlt
        unfold ltS at hl2
        have Hn := Lib.hid (show ∀ z ∈ xs.take (k + 1), ltS z s = true by
          intro z hz
          rw [List.take_add_one, hy] at hz
          rcases List.mem_append.1 hz with m | m
          · exact ht.out z m
          · simp at m; rw [m]; exact hlt)
        clear hlt hy
        go_wp2
        go_roundw
        case rel => exact ⟨k + 1, by omega, by go_num, Hn, by first | rfl | trivial⟩
        case measure => first | (simp [intOf]; done) | (simp [intOf]; omega)
    · have hkn' : ¬ ((k : Int) < (xs.length : Int)) := by omega
      have hke : k = xs.length := by omega
      have hins : insS xs s = xs.take k ++ [s] ++ xs.drop k := by
        have ht2 := ht.out
        rw [hke, List.take_length] at ht2 ⊢
        rw [insS_end ht2]; simp
      have Hins := Lib.hid hins
      clear hins hke
      go_upto_region 6 with fail
-- TAIL n
      obtain ⟨C1, eC1, hq1, hq1'⟩ := Tryz.cutTo A xs.length c k (by omega)
      obtain ⟨C2, eC2, hq2, hq2'⟩ := Tryz.cutOff A xs.length c k (by omega)
      have U1 := Text.cut h 0 k (Nat.zero_le _) (by omega)
      have U2 := Text.cut h k xs.length (by omega) (Nat.le_refl _)
      simp only [List.drop_zero, Nat.sub_zero] at U1
      rw [← eC1] at U1
      rw [← eC2, List.take_of_length_le (by simp)] at U2
      clear eC1 eC2
      have hb0 : Below wr.heap.size wr (wr.alloc (.cells #[] 9)) := (Below.refl _ _).alloc (Nat.le_refl _) _
      have hS1 := Text.src (U1.keep hb0 hh)
      have hlt1 : (xs.take k).length = k := by simp; try omega
      go_wp2_with (at_builtin; refine wpList_append_src _ rfl (.tmp 34) (.tmp 37) _ rfl wr.heap.size 9 is _ 1 16 Tryz.underlying59 si0 si1 si2 si3 rfl (by omega) _ 0 _ rfl (World.ownsRow_made wr #[] 0 (Nat.le_refl _) (Nat.zero_le _) rfl) _ k c _ rfl hS1 (texts_one _) ?e3 ?e4 ?e5 ?_)
      case e3 => unfold maxLen; omega
      case e4 => omega
      try (case e5 => simp)
      intro A5 c5 w5 hown5 hg5 _
      have hb5 : Below wr.heap.size wr w5 := hb0.grown hg5 (by simp) (fun g hg => by simp [Value.ownBlock] at hg; omega)
      have hs5 := hb5.size
      clear hg5 hS1 hb0
      go_wp2_with (at_builtin; refine wpList_append_src _ rfl (.tmp 39) (.tmp 41) _ rfl wr.heap.size 9 is _ 1 16 Tryz.underlying59 si0 si1 si2 si3 rfl (by omega) _ k _ rfl (hown5.alloc _) _ 1 1 [.string ⟨s.toArray⟩] rfl (Src.lit w5 9 [.string ⟨s.toArray⟩] 1 1 rfl) ?f2 ?f3 ?f4 ?f5 ?_)
      case f2 => first | rfl | (intro u hu; simp at hu; subst hu; rfl)
      case f3 => unfold maxLen; omega
      case f4 => omega
      try (case f5 => first | omega | (simp; omega))
      intro A6 c6 w6 hown6 hg6 _
      have hb6 : Below wr.heap.size wr w6 := (hb5.alloc (by omega) _).grown hg6 (by simp; omega) (fun g hg => (hown5.lt g hg).1)
      have hs6 := hb6.size
      clear hg6
      have hS2 := Text.src (U2.keep hb6 hh)
      go_wp2_with (at_builtin; refine wpList_append_src _ rfl (.tmp 43) (.tmp 46) _ rfl wr.heap.size 9 is _ 1 16 Tryz.underlying59 si0 si1 si2 si3 rfl (by omega) _ (k + 1) _ rfl hown6 _ (xs.length - k) (c - k) _ rfl hS2 (texts_one _) ?g3 ?g4 ?g5 ?_)
      case g3 => unfold maxLen; omega
      case g4 => omega
      try (case g5 => first | omega | (simp; omega))
      intro A7 c7 w7 hown7 hg7 _
      have hb7 : Below wr.heap.size wr w7 := hb6.grown hg7 (by omega) (fun g hg => (hown6.lt g hg).1)
      clear hg7 hS2
      have hfr : Fresh w7 wr.heap.size w7.heap.size (encText (xs.take k ++ [s] ++ xs.drop k)) (.slice A7 (k + 1 + (xs.length - k)) c7) :=
        Fresh.of_row hown7 (by have := owns_strs w7 (xs.take k ++ [s] ++ xs.drop k); simpa [List.map_append, List.map_drop, List.map_take] using this)
      have Hfr := Lib.hid hfr
      clear hfr hown7 hown6 hown5
      go_wp2
      go_ret
      exact ⟨_, _, _, rfl, hb7, by rw [HR.out, Hins.out]; exact (Fresh.rep Hfr.out).mono hlo (Nat.le_refl _)⟩
-- END
end Go.Proofs.YtenkceeicmfjhaaGreatDoor

/- Walk: all paths of three trees: the reference's l6Paths. Printed by wip/mk_l6paths.py. -/
namespace Go.Proofs.YtenkceeicmfjhaaGreatDoor
open Go.RowKit

set_option maxRecDepth 100000 in
set_option maxHeartbeats 2000000 in
theorem spec_l6Paths_any (A1 A2 A3 : Option Addr) (n1 c1 n2 c2 n3 c3 : Nat) (xs ys zs : List PFile) (w : World) (lo hi lo' hi' lo'' hi'' : Nat) (h1 : Rep w lo hi (encFiles xs) (.slice A1 n1 c1)) (h2 : Rep w lo' hi' (encFiles ys) (.slice A2 n2 c2)) (h3 : Rep w lo'' hi'' (encFiles zs) (.slice A3 n3 c3))
    (hh1 : hi ≤ w.heap.size) (hh2 : hi' ≤ w.heap.size) (hh3 : hi'' ≤ w.heap.size) (hx : xs.length ≤ 8) (hy : ys.length ≤ 8) (hz : zs.length ≤ 8) :
    Calls Tryz.prog 56 #[.slice A1 n1 c1, .slice A2 n2 c2, .slice A3 n3 c3] w fun e w' => ∃ A' n' c', e = .returned (.slice A' n' c') ∧ Below w.heap.size w w' ∧ Rep w' w.heap.size w'.heap.size (encText (paths3 xs ys zs)) (.slice A' n' c') := by
  have hl1 := Files.n h1
  have hl2 := Files.n h2
  have hl3 := Files.n h3
  obtain ⟨hc1, hm1⟩ := Files.cap h1
  obtain ⟨hc2, hm2⟩ := Files.cap h2
  obtain ⟨hc3, hm3⟩ := Files.cap h3
  subst hl1 hl2 hl3
  have hb0 : Below w.heap.size w (w.alloc (.cells #[] 9)) := (Below.refl _ _).alloc (Nat.le_refl _) _
  have hout0 : Rep (w.alloc (.cells #[] 9)) w.heap.size (w.alloc (.cells #[] 9)).heap.size (encText []) (.slice (some ⟨w.heap.size, 0, none⟩) 0 0) :=
    (Fresh.of_row (World.ownsRow_made w #[] 0 (Nat.le_refl _) (Nat.zero_le _) rfl) (ps := []) ⟨rfl, rfl⟩ : Fresh _ _ _ (.sl _ 1 []) _).rep
  go_enter Tryz.func56, Tryz.ntmps56
  go_wp2
  go_loopw [7, 8] (fun t i wr => ∃ (k : Nat) (done : List Str) (A' : Option Addr) (n' c' : Nat), k ≤ xs.length ∧ i = .int .i64 k ∧ t = .slice A' n' c' ∧ Hid (done = (pathsT (xs.take k)).foldl insS []) ∧ done.length ≤ k + 0 ∧
      Rep wr w.heap.size wr.heap.size (encText done) (.slice A' n' c') ∧ Below w.heap.size w wr) (fun _ i _ => xs.length - (intOf i).toNat)
  case atStart => exact ⟨0, [], _, _, _, Nat.zero_le _, rfl, rfl, Lib.hid rfl, by simp, hout0, hb0⟩
  case round =>
    clear hb0 hout0
    obtain ⟨k, done, A9, n9, c9, hk, rfl, rfl, hd, hdl, hF, hb⟩ := hrel
    have hsz := hb.size
    obtain ⟨wo, rfl⟩ : ∃ wo : World, wo = wr := ⟨_, rfl⟩
    by_cases hkn : k < xs.length
    · have hkn' : (k : Int) < (xs.length : Int) := by omega
      obtain ⟨b1, o1, x, rfl, _, hbhi, hx9, A3', n3', c3', d0, d1, r3⟩ := Files.at (h1.keep hb hh1) hkn
      have Hnx := Lib.hid (show insS done x.path = (pathsT (xs.take (k + 1))).foldl insS [] by rw [pathsT_next hx9, List.foldl_append, ← hd.out]; rfl)
      have hln := insS_len1 done x.path
      clear hx9
      have hput := spec_l5Put_any A9 n9 c9 done x.path wo w.heap.size wo.heap.size hF hsz (Nat.le_refl _) (by omega)
      go_wp2_with fail
      refine Calls.mono hput ?_
      rintro e w2 ⟨A2', n2', c2', rfl, hb2, hF2⟩
      clear hput
      go_wp2
      go_roundw
      case rel => exact ⟨k + 1, _, A2', n2', c2', by omega, by go_num, rfl, Hnx, by omega, hF2, hb.trans (hb2.mono hsz)⟩
      case measure => first | (simp [intOf]; done) | (simp [intOf]; omega)
    · obtain rfl : k = xs.length := by omega
      clear hkn
      obtain ⟨B1, hB1⟩ : ∃ B, B = done := ⟨_, rfl⟩
      have HB1 := Lib.hid (show B1 = (pathsT xs).foldl insS [] by rw [hB1, hd.out, List.take_length])
      rw [← hB1] at hF hdl
      clear hd hB1
      go_wp2
      go_loopw [7, 9] (fun t i wr => ∃ (k : Nat) (done : List Str) (A' : Option Addr) (n' c' : Nat), k ≤ ys.length ∧ i = .int .i64 k ∧ t = .slice A' n' c' ∧ Hid (done = (pathsT (ys.take k)).foldl insS B1) ∧ done.length ≤ k + 8 ∧
          Rep wr w.heap.size wr.heap.size (encText done) (.slice A' n' c') ∧ Below w.heap.size w wr) (fun _ i _ => ys.length - (intOf i).toNat)
      case atStart => exact ⟨0, B1, A9, n9, c9, Nat.zero_le _, rfl, rfl, Lib.hid rfl, by omega, hF, hb⟩
      case round =>
        clear hF hb hsz
        obtain ⟨k, done, A9, n9, c9, hk, rfl, rfl, hd, hdl, hF, hb⟩ := hrel
        have hsz := hb.size
        obtain ⟨wo, rfl⟩ : ∃ wo : World, wo = wr := ⟨_, rfl⟩
        by_cases hkn : k < ys.length
        · have hkn' : (k : Int) < (ys.length : Int) := by omega
          obtain ⟨b1, o1, x, rfl, _, hbhi, hx9, A3', n3', c3', d0, d1, r3⟩ := Files.at (h2.keep hb hh2) hkn
          have Hnx := Lib.hid (show insS done x.path = (pathsT (ys.take (k + 1))).foldl insS B1 by rw [pathsT_next hx9, List.foldl_append, ← hd.out]; rfl)
          have hln := insS_len1 done x.path
          clear hx9
          have hput := spec_l5Put_any A9 n9 c9 done x.path wo w.heap.size wo.heap.size hF hsz (Nat.le_refl _) (by omega)
          go_wp2_with fail
          refine Calls.mono hput ?_
          rintro e w2 ⟨A2', n2', c2', rfl, hb2, hF2⟩
          clear hput
          go_wp2
          go_roundw
          case rel => exact ⟨k + 1, _, A2', n2', c2', by omega, by go_num, rfl, Hnx, by omega, hF2, hb.trans (hb2.mono hsz)⟩
          case measure => first | (simp [intOf]; done) | (simp [intOf]; omega)
        · obtain rfl : k = ys.length := by omega
          clear hkn
          obtain ⟨B2, hB2⟩ : ∃ B, B = done := ⟨_, rfl⟩
          have HB2 := Lib.hid (show B2 = (pathsT ys).foldl insS B1 by rw [hB2, hd.out, List.take_length])
          rw [← hB2] at hF hdl
          clear hd hB2
          go_wp2
          go_loopw [7, 10] (fun t i wr => ∃ (k : Nat) (done : List Str) (A' : Option Addr) (n' c' : Nat), k ≤ zs.length ∧ i = .int .i64 k ∧ t = .slice A' n' c' ∧ Hid (done = (pathsT (zs.take k)).foldl insS B2) ∧ done.length ≤ k + 16 ∧
              Rep wr w.heap.size wr.heap.size (encText done) (.slice A' n' c') ∧ Below w.heap.size w wr) (fun _ i _ => zs.length - (intOf i).toNat)
          case atStart => exact ⟨0, B2, A9, n9, c9, Nat.zero_le _, rfl, rfl, Lib.hid rfl, by omega, hF, hb⟩
          case round =>
            clear hF hb hsz
            obtain ⟨k, done, A9, n9, c9, hk, rfl, rfl, hd, hdl, hF, hb⟩ := hrel
            have hsz := hb.size
            obtain ⟨wo, rfl⟩ : ∃ wo : World, wo = wr := ⟨_, rfl⟩
            by_cases hkn : k < zs.length
            · have hkn' : (k : Int) < (zs.length : Int) := by omega
              obtain ⟨b1, o1, x, rfl, _, hbhi, hx9, A3', n3', c3', d0, d1, r3⟩ := Files.at (h3.keep hb hh3) hkn
              have Hnx := Lib.hid (show insS done x.path = (pathsT (zs.take (k + 1))).foldl insS B2 by rw [pathsT_next hx9, List.foldl_append, ← hd.out]; rfl)
              have hln := insS_len1 done x.path
              clear hx9
              have hput := spec_l5Put_any A9 n9 c9 done x.path wo w.heap.size wo.heap.size hF hsz (Nat.le_refl _) (by omega)
              go_wp2_with fail
              refine Calls.mono hput ?_
              rintro e w2 ⟨A2', n2', c2', rfl, hb2, hF2⟩
              clear hput
              go_wp2
              go_roundw
              case rel => exact ⟨k + 1, _, A2', n2', c2', by omega, by go_num, rfl, Hnx, by omega, hF2, hb.trans (hb2.mono hsz)⟩
              case measure => first | (simp [intOf]; done) | (simp [intOf]; omega)
            · obtain rfl : k = zs.length := by omega
              clear hkn
              have H9 := Lib.hid (show done = paths3 xs ys zs by rw [paths3_fold, hd.out, List.take_length, HB2.out, HB1.out])
              go_wp2
              go_ret
              exact ⟨_, _, _, rfl, hb, by rw [← H9.out]; exact hF⟩
end Go.Proofs.YtenkceeicmfjhaaGreatDoor
