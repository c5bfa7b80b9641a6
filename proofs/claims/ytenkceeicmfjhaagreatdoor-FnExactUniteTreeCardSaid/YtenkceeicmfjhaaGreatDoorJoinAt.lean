/- Walks: what becomes of a path: the program's joinAt. -/
import Derived.Test.YtenkceeicmfjhaaGreatDoorJoinAtPlain
import Derived.Test.YtenkceeicmfjhaaGreatDoorHas
import Derived.Deep.RegionHeld3
namespace Go.Proofs.YtenkceeicmfjhaaGreatDoor
open Go.RowKit

section
variable {P : Program}
theorem results_cell_tmp {fn : Func} {p q : Tmp} {ty : TypeId} (h : fn.results = #[.cell p ty, .tmp q]) (tmps : Array Value) (w : World) (g : Nat) (t : TypeId) (cs : Array Value) (fr : Nat × Nat) (d : TypeDesc)
    (hp : tmps.getD p undef = .pointer (some ⟨g, 0, none⟩)) (hg : w.heap[g]? = some (.cells cs t fr))
    (hu : P.underlying ty = some d) (hd : (match d with | .struct _ | .array _ _ => true | _ => false) = true) (hi : (P.info? ty).map (·.size) = some cs.size) :
    (results fn tmps).run P w = .ok (.tuple #[.agg cs, tmps.getD q undef]) w := by
  have hp' : tmps[p]?.getD undef = .pointer (some ⟨g, 0, none⟩) := by simpa using hp
  simp [results, h, hp', asAddr, run_loadVar_row w g t ty cs fr d hg hu hd hi]
end
/-- Three boxes and the result's variable. -/
structure Held (W : World) (g : Nat) (v0 v1 u0 u1 t0 t1 : Value) : Prop where
  o0 : W.cell? ⟨g, 0, none⟩ = some v0
  o1 : W.cell? ⟨g, 1, none⟩ = some v1
  a0 : W.cell? ⟨g + 1, 0, none⟩ = some u0
  a1 : W.cell? ⟨g + 1, 1, none⟩ = some u1
  b0 : W.cell? ⟨g + 2, 0, none⟩ = some t0
  b1 : W.cell? ⟨g + 2, 1, none⟩ = some t1
  r : W.heap[g + 3]? = some (Obj.cells #[.slice none 0 0, .bool false] 104)
  lt : g + 3 < W.heap.size
theorem Held.keep {W w' : World} {g B : Nat} {v0 v1 u0 u1 t0 t1 : Value} (h : Held W g v0 v1 u0 u1 t0 t1) (hb : Below B W w') (hB : g + 3 < B) : Held w' g v0 v1 u0 u1 t0 t1 where
  o0 := (hb.cell (p := ⟨g, 0, none⟩) (by show g < B; omega)).trans h.o0
  o1 := (hb.cell (p := ⟨g, 1, none⟩) (by show g < B; omega)).trans h.o1
  a0 := (hb.cell (p := ⟨g + 1, 0, none⟩) (by show g + 1 < B; omega)).trans h.a0
  a1 := (hb.cell (p := ⟨g + 1, 1, none⟩) (by show g + 1 < B; omega)).trans h.a1
  b0 := (hb.cell (p := ⟨g + 2, 0, none⟩) (by show g + 2 < B; omega)).trans h.b0
  b1 := (hb.cell (p := ⟨g + 2, 1, none⟩) (by show g + 2 < B; omega)).trans h.b1
  r := (hb.block _ hB).trans h.r
  lt := Nat.lt_of_lt_of_le h.lt hb.size
theorem Held.cells {W : World} {g : Nat} {v0 v1 u0 u1 t0 t1 : Value} (h : Held W g v0 v1 u0 u1 t0 t1) : W.cell? ⟨g + 3, 0, none⟩ = some (.slice none 0 0) ∧ W.cell? ⟨g + 3, 1, none⟩ = some (.bool false) ∧ ∀ j, W.frozen? ⟨g + 3, j, none⟩ = false :=
  ⟨by simp only [World.cell?, h.r]; rfl, by simp only [World.cell?, h.r]; rfl, fun j => by simp [World.frozen?, h.r]⟩
/-- The result's variable written: what it holds, and what stayed. -/
theorem Held.out {w w' : World} {lo g n c : Nat} {A : Option Addr} {r : Option (List Str)} {v0 v1 u0 u1 t0 t1 : Value} (h : Held w' g v0 v1 u0 u1 t0 t1) (hg : g = w.heap.size) (hb : Below w.heap.size w w') (hf : Fresh w' lo w.heap.size (encText (r.getD [])) (.slice A n c) ∨ Fresh w' (g + 4) w'.heap.size (encText (r.getD [])) (.slice A n c)) (hlo : lo ≤ w.heap.size) :
    (two w' (g + 3) (.slice A n c) (.bool r.isSome)).heap[g + 3]? = some (.cells #[.slice A n c, .bool r.isSome] 104 (0, 0)) ∧ Below w.heap.size w (two w' (g + 3) (.slice A n c) (.bool r.isSome)) ∧
      Fresh (two w' (g + 3) (.slice A n c) (.bool r.isSome)) lo (two w' (g + 3) (.slice A n c) (.bool r.isSome)).heap.size (encText (r.getD [])) (.slice A n c) := by
  refine ⟨two_row _ _ h.r, two_below _ _ hb (by omega), ?_⟩
  rw [two_size]
  have := hb.size
  have := h.lt
  rcases hf with hf | hf
  · exact (hf.same (two_same _ _ (.inr (by omega)))).mono (Nat.le_refl _) (by omega)
  · exact (hf.same (two_same _ _ (.inl (by omega)))).mono (by omega) (Nat.le_refl _)

set_option maxRecDepth 100000 in
set_option maxHeartbeats 4000000 in
theorem impl_joinAt_any (A1 A2 A3 : Option Addr) (n1 c1 n2 c2 n3 c3 : Nat) (o a b : Option (List Str)) (w : World) (lo : Nat) (hlo : lo ≤ w.heap.size) (h1 : Fresh w lo w.heap.size (encText (o.getD [])) (.slice A1 n1 c1)) (h2 : Fresh w lo w.heap.size (encText (a.getD [])) (.slice A2 n2 c2)) (h3 : Fresh w lo w.heap.size (encText (b.getD [])) (.slice A3 n3 c3)) :
    Calls Tryz.prog 67 #[.agg #[.slice A1 n1 c1, .bool o.isSome], .agg #[.slice A2 n2 c2, .bool a.isSome], .agg #[.slice A3 n3 c3, .bool b.isSome]] w fun e w' => ∃ A n c, e = .returned (.tuple #[.agg #[.slice A n c, .bool (joinAt o a b).1.isSome], .int .i64 (joinAt o a b).2]) ∧ Below w.heap.size w w' ∧
      Fresh w' lo w'.heap.size (encText ((joinAt o a b).1.getD [])) (.slice A n c) := by
  have hbx := fun o1 => (Below.refl w.heap.size w).alloc (Nat.le_refl _) o1
  have hby := fun o1 o2 => (hbx o1).alloc (o := o2) (by simp)
  have hbz := fun o1 o2 o3 => (hby o1 o2).alloc (o := o3) (by simp; omega)
  have hbr := fun o1 o2 o3 o4 => (hbz o1 o2 o3).alloc (o := o4) (by simp; omega)
  have HH : Held ((((w.alloc (.cells #[.slice A1 n1 c1, .bool o.isSome] 104)).alloc (.cells #[.slice A2 n2 c2, .bool a.isSome] 104)).alloc (.cells #[.slice A3 n3 c3, .bool b.isSome] 104)).alloc (.cells #[.slice none 0 0, .bool false] 104)) w.heap.size (.slice A1 n1 c1) (.bool o.isSome) (.slice A2 n2 c2) (.bool a.isSome) (.slice A3 n3 c3) (.bool b.isSome) := by
    refine ⟨?_, ?_, ?_, ?_, ?_, ?_, ?_, ?_⟩
    · simp [go_sem]
    · simp [go_sem]
    · simp [go_sem]
    · simp [go_sem]
    · simp [go_sem]
    · simp [go_sem]
    · have := heap_new' (((w.alloc (.cells #[.slice A1 n1 c1, .bool o.isSome] 104)).alloc (.cells #[.slice A2 n2 c2, .bool a.isSome] 104)).alloc (.cells #[.slice A3 n3 c3, .bool b.isSome] 104)) (.cells #[.slice none 0 0, .bool false] 104)
      simpa using this
    · simp
  go_enter Tryz.func67, Tryz.ntmps67
  go_upto_region 1 with fail
  obtain ⟨W, hW⟩ : ∃ W : World, W = ((((w.alloc (.cells #[.slice A1 n1 c1, .bool o.isSome] 104)).alloc (.cells #[.slice A2 n2 c2, .bool a.isSome] 104)).alloc (.cells #[.slice A3 n3 c3, .bool b.isSome] 104)).alloc (.cells #[.slice none 0 0, .bool false] 104)) := ⟨_, rfl⟩
  have hbW : Below w.heap.size w W := by rw [hW]; exact hbr _ _ _ _
  rw [← hW] at HH ⊢
  obtain ⟨g, hg⟩ : ∃ g, g = w.heap.size := ⟨_, rfl⟩
  rw [← hg] at HH ⊢
  have Hg := Lib.hid hg
  clear hW hbx hby hbz hbr hg
  have f1 : Fresh W lo w.heap.size (encText (o.getD [])) (.slice A1 n1 c1) := h1.keep hbW (Nat.le_refl _)
  have f2 : Fresh W lo w.heap.size (encText (a.getD [])) (.slice A2 n2 c2) := h2.keep hbW (Nat.le_refl _)
  have f3 : Fresh W lo w.heap.size (encText (b.getD [])) (.slice A3 n3 c3) := h3.keep hbW (Nat.le_refl _)
  clear h1 h2 h3
  have hsW : w.heap.size ≤ W.heap.size := hbW.size
  have hsame := fun o1 o2 A B n c m d w' (hb : Below W.heap.size W w') (r1 : Fresh W lo w.heap.size (encText ((o1 : Option (List Str)).getD [])) (.slice A n c)) (r2 : Fresh W lo w.heap.size (encText ((o2 : Option (List Str)).getD [])) (.slice B m d)) => impl_same_any A B n c m d o1 o2 w' lo w.heap.size lo w.heap.size (r1.keep hb hsW).rep (r2.keep hb hsW).rep (Nat.le_trans hsW hb.size) (Nat.le_trans hsW hb.size)
  have cell := fun w' (hb : Below W.heap.size W w') => HH.keep hb HH.lt
  have hS1 := hsame a o A2 A1 n2 c2 n1 c1 W (Below.refl _ _) f2 f1
  obtain ⟨o0, o1, a0, a1, b0, b1, hR, hlt⟩ := HH
  by_cases e1 : a = o
  · rw [show decide (a = o) = true by simp [e1]] at hS1
    have Hj := Lib.hid (joinAt_1 (b := b) e1)
    clear e1
    go_wp2_with fail
    refine Calls.mono hS1 ?_
    rintro e w5 ⟨rfl, hb5⟩
    have H5 := cell w5 hb5
    clear o0 o1 a0 a1 b0 b1 hR
    obtain ⟨o0, o1, a0, a1, b0, b1, hR, _⟩ := H5
    have H5 := cell w5 hb5
    obtain ⟨k0, k1, kf⟩ := H5.cells
    go_wp2
    obtain ⟨H1, H2, H3⟩ := Held.out (r := b) H5 Hg.out (hbW.trans (hb5.mono hsW)) (.inl (f3.keep hb5 hsW)) hlo
    refine bodyPost_ret (results_cell_tmp rfl _ (two w5 (g + 3) (.slice A3 n3 c3) (.bool b.isSome)) (g + 3) _ #[.slice A3 n3 c3, .bool b.isSome] (0, 0) _ rfl H1 Tryz.underlying104 rfl (by kernel_rfl)) rfl ?_
    rw [Hj.out]
    exact ⟨A3, n3, c3, rfl, H2, H3⟩
  · rw [show decide (a = o) = false by simp [e1]] at hS1
    have E1 := Lib.hid e1
    clear e1
    go_wp2_with fail
    refine Calls.mono hS1 ?_
    rintro e w5 ⟨rfl, hb5⟩
    have H5 := cell w5 hb5
    clear o0 o1 a0 a1 b0 b1 hR
    obtain ⟨o0, o1, a0, a1, b0, b1, hR, _⟩ := H5
    have H5 := cell w5 hb5
    obtain ⟨k0, k1, kf⟩ := H5.cells
    have hS2 := hsame a b A2 A3 n2 c2 n3 c3 w5 hb5 f2 f3
    by_cases e2 : a = b
    · rw [show decide (a = b) = true by simp [e2]] at hS2
      have Hj := Lib.hid (joinAt_2 E1.out e2)
      clear e2
      go_wp2_with fail
      refine Calls.mono hS2 ?_
      rintro e w6 ⟨rfl, hb6⟩
      have hb7 : Below W.heap.size W w6 := hb5.trans (hb6.mono hb5.size)
      clear o0 o1 a0 a1 b0 b1 hR k0 k1 kf H5 hb5 hb6
      obtain ⟨w5, rfl⟩ : ∃ v : World, v = w6 := ⟨_, rfl⟩
      have hb5 := hb7
      clear hb7
      have H5 := cell w5 hb5
      obtain ⟨o0, o1, a0, a1, b0, b1, hR, _⟩ := H5
      have H5 := cell w5 hb5
      obtain ⟨k0, k1, kf⟩ := H5.cells
      go_wp2
      obtain ⟨H1, H2, H3⟩ := Held.out (r := b) H5 Hg.out (hbW.trans (hb5.mono hsW)) (.inl (f3.keep hb5 hsW)) hlo
      refine bodyPost_ret (results_cell_tmp rfl _ (two w5 (g + 3) (.slice A3 n3 c3) (.bool b.isSome)) (g + 3) _ #[.slice A3 n3 c3, .bool b.isSome] (0, 0) _ rfl H1 Tryz.underlying104 rfl (by kernel_rfl)) rfl ?_
      rw [Hj.out]
      exact ⟨A3, n3, c3, rfl, H2, H3⟩
    · rw [show decide (a = b) = false by simp [e2]] at hS2
      have E2 := Lib.hid e2
      clear e2
      go_wp2_with fail
      refine Calls.mono hS2 ?_
      rintro e w6 ⟨rfl, hb6⟩
      have hb7 : Below W.heap.size W w6 := hb5.trans (hb6.mono hb5.size)
      clear o0 o1 a0 a1 b0 b1 hR k0 k1 kf H5 hb5 hb6
      obtain ⟨w5, rfl⟩ : ∃ v : World, v = w6 := ⟨_, rfl⟩
      have hb5 := hb7
      clear hb7
      have H5 := cell w5 hb5
      obtain ⟨o0, o1, a0, a1, b0, b1, hR, _⟩ := H5
      have H5 := cell w5 hb5
      obtain ⟨k0, k1, kf⟩ := H5.cells
      have hS3 := hsame b o A3 A1 n3 c3 n1 c1 w5 hb5 f3 f1
      by_cases e3 : b = o
      · rw [show decide (b = o) = true by simp [e3]] at hS3
        have Hj := Lib.hid (joinAt_3 E1.out E2.out e3)
        clear e3
        go_wp2_with fail
        refine Calls.mono hS3 ?_
        rintro e w6 ⟨rfl, hb6⟩
        have hb7 : Below W.heap.size W w6 := hb5.trans (hb6.mono hb5.size)
        clear o0 o1 a0 a1 b0 b1 hR k0 k1 kf H5 hb5 hb6
        obtain ⟨w5, rfl⟩ : ∃ v : World, v = w6 := ⟨_, rfl⟩
        have hb5 := hb7
        clear hb7
        have H5 := cell w5 hb5
        obtain ⟨o0, o1, a0, a1, b0, b1, hR, _⟩ := H5
        have H5 := cell w5 hb5
        obtain ⟨k0, k1, kf⟩ := H5.cells
        go_wp2
        obtain ⟨H1, H2, H3⟩ := Held.out (r := a) H5 Hg.out (hbW.trans (hb5.mono hsW)) (.inl (f2.keep hb5 hsW)) hlo
        refine bodyPost_ret (results_cell_tmp rfl _ (two w5 (g + 3) (.slice A2 n2 c2) (.bool a.isSome)) (g + 3) _ #[.slice A2 n2 c2, .bool a.isSome] (0, 0) _ rfl H1 Tryz.underlying104 rfl (by kernel_rfl)) rfl ?_
        rw [Hj.out]
        exact ⟨A2, n2, c2, rfl, H2, H3⟩
      · rw [show decide (b = o) = false by simp [e3]] at hS3
        have E3 := Lib.hid e3
        clear e3
        go_wp2_with fail
        refine Calls.mono hS3 ?_
        rintro e w6 ⟨rfl, hb6⟩
        have hb7 : Below W.heap.size W w6 := hb5.trans (hb6.mono hb5.size)
        clear o0 o1 a0 a1 b0 b1 hR k0 k1 kf H5 hb5 hb6
        obtain ⟨w5, rfl⟩ : ∃ v : World, v = w6 := ⟨_, rfl⟩
        have hb5 := hb7
        clear hb7
        have H5 := cell w5 hb5
        obtain ⟨o0, o1, a0, a1, b0, b1, hR, _⟩ := H5
        have H5 := cell w5 hb5
        obtain ⟨k0, k1, kf⟩ := H5.cells
        clear hS1 hS2 hS3 hsame
        cases a with
        | none =>
          have Hj := Lib.hid (joinAt_4 E1.out E2.out E3.out (.inl rfl))
          simp only [Option.isSome_none] at a1
          go_wp2
          obtain ⟨H1, H2, H3⟩ := Held.out (r := o) H5 Hg.out (hbW.trans (hb5.mono hsW)) (.inl (f1.keep hb5 hsW)) hlo
          refine bodyPost_ret (results_cell_tmp rfl _ (two w5 (g + 3) (.slice A1 n1 c1) (.bool o.isSome)) (g + 3) _ #[.slice A1 n1 c1, .bool o.isSome] (0, 0) _ rfl H1 Tryz.underlying104 rfl (by kernel_rfl)) rfl ?_
          rw [Hj.out]
          exact ⟨A1, n1, c1, rfl, H2, H3⟩
        | some ta =>
          cases b with
          | none =>
            have Hj := Lib.hid (joinAt_4 E1.out E2.out E3.out (.inr rfl))
            simp only [Option.isSome_none, Option.isSome_some] at a1 b1
            go_wp2
            obtain ⟨H1, H2, H3⟩ := Held.out (r := o) H5 Hg.out (hbW.trans (hb5.mono hsW)) (.inl (f1.keep hb5 hsW)) hlo
            refine bodyPost_ret (results_cell_tmp rfl _ (two w5 (g + 3) (.slice A1 n1 c1) (.bool o.isSome)) (g + 3) _ #[.slice A1 n1 c1, .bool o.isSome] (0, 0) _ rfl H1 Tryz.underlying104 rfl (by kernel_rfl)) rfl ?_
            rw [Hj.out]
            exact ⟨A1, n1, c1, rfl, H2, H3⟩
          | some tb =>
            cases o with
            | none =>
              have Hj := Lib.hid (joinAt_5 E2.out)
              simp only [Option.isSome_none, Option.isSome_some] at a1 b1 o1
              go_wp2
              obtain ⟨H1, H2, H3⟩ := Held.out (r := none) H5 Hg.out (hbW.trans (hb5.mono hsW)) (.inl (f1.keep hb5 hsW)) hlo
              refine bodyPost_ret (results_cell_tmp rfl _ (two w5 (g + 3) (.slice A1 n1 c1) (.bool false)) (g + 3) _ #[.slice A1 n1 c1, .bool false] (0, 0) _ rfl H1 Tryz.underlying104 rfl (by kernel_rfl)) rfl ?_
              rw [Hj.out]
              exact ⟨A1, n1, c1, rfl, H2, H3⟩
            | some to =>
              have Hj := Lib.hid (joinAt_6 E1.out E2.out E3.out)
              simp only [Option.isSome_some] at a1 b1 o1
              have hm := impl_MergeText_any A1 A2 A3 n1 c1 n2 c2 n3 c3 to ta tb w5 lo w.heap.size lo w.heap.size lo w.heap.size (f1.keep hb5 hsW).rep (f2.keep hb5 hsW).rep (f3.keep hb5 hsW).rep (Nat.le_trans hsW hb5.size) (Nat.le_trans hsW hb5.size) (Nat.le_trans hsW hb5.size)
              obtain ⟨mr, hmr⟩ : ∃ mr, mr = mergeText to ta tb := ⟨_, rfl⟩
              rw [← hmr] at hm
              have Hmr := Lib.hid hmr
              clear hmr
              go_wp2_with fail
              refine Calls.mono hm ?_
              rintro e w6 ⟨A6, n6, c6, rfl, hb6, hf6⟩
              have hz5 := hb5.size
              have hb7 : Below W.heap.size W w6 := hb5.trans (hb6.mono hb5.size)
              clear o0 o1 a0 a1 b0 b1 hR k0 k1 kf H5 hb5 hb6
              obtain ⟨w5, rfl⟩ : ∃ v : World, v = w6 := ⟨_, rfl⟩
              have hb5 := hb7
              clear hb7
              have H5 := cell w5 hb5
              obtain ⟨o0, o1, a0, a1, b0, b1, hR, _⟩ := H5
              have H5 := cell w5 hb5
              obtain ⟨k0, k1, kf⟩ := H5.cells
              cases mr with
              | none =>
                have Hj2 := Lib.hid (show joinAt (some to) (some ta) (some tb) = (some to, 3) by rw [Hj.out, ← Hmr.out])
                clear Hj
                rename Hid (joinAt (some to) (some ta) (some tb) = (some to, 3)) => Hj
                simp only [Option.isSome_none]
                go_wp2
                obtain ⟨H1, H2, H3⟩ := Held.out (r := (some to)) H5 Hg.out (hbW.trans (hb5.mono hsW)) (.inl (f1.keep hb5 hsW)) hlo
                refine bodyPost_ret (results_cell_tmp rfl _ (two w5 (g + 3) (.slice A1 n1 c1) (.bool true)) (g + 3) _ #[.slice A1 n1 c1, .bool true] (0, 0) _ rfl H1 Tryz.underlying104 rfl (by kernel_rfl)) rfl ?_
                rw [Hj.out]
                exact ⟨A1, n1, c1, rfl, H2, H3⟩
              | some tm =>
                have Hj2 := Lib.hid (show joinAt (some to) (some ta) (some tb) = (some tm, 0) by rw [Hj.out, ← Hmr.out])
                clear Hj
                rename Hid (joinAt (some to) (some ta) (some tb) = (some tm, 0)) => Hj
                have hf7 : Fresh w5 (g + 4) w5.heap.size (encText tm) (.slice A6 n6 c6) := hf6.mono (by have := H5.lt; have := hlt; omega) (Nat.le_refl _)
                have Hf7 := Lib.hid hf7
                clear hf6 hf7 hm
                simp only [Option.isSome_some]
                go_wp2
                obtain ⟨H1, H2, H3⟩ := Held.out (r := some tm) H5 Hg.out (hbW.trans (hb5.mono hsW)) (.inr Hf7.out) hlo
                refine bodyPost_ret (results_cell_tmp rfl _ (two w5 (g + 3) (.slice A6 n6 c6) (.bool true)) (g + 3) _ #[.slice A6 n6 c6, .bool true] (0, 0) _ rfl H1 Tryz.underlying104 rfl (by kernel_rfl)) rfl ?_
                rw [Hj.out]
                exact ⟨A6, n6, c6, rfl, H2, H3⟩
end Go.Proofs.YtenkceeicmfjhaaGreatDoor
