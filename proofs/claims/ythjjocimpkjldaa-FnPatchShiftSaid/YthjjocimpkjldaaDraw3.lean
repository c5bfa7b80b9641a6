/- Walks: l30Turn, l30Two, DrawDiffMany. -/
import Derived.Test.YthjjocimpkjldaaDraw2
import Derived.Deep.RegionHeld3
namespace Go.Proofs.Ythjjocimpkjldaa
open Go.RowKit

theorem Mine.fresh {w : World} {B : Nat} {xs : List Str} {v : Value} (h : Mine w B xs v) : Fresh w B w.heap.size (encText xs) v := Fresh.of_row h.1 (owns_strs _ xs)
theorem Mine.shape {w : World} {B : Nat} {xs : List Str} {v : Value} (h : Mine w B xs v) : ∃ A c, v = .slice A xs.length c ∧ xs.length ≤ c ∧ c ≤ maxLen ∧ Src w 1 A xs.length (xs.map fun s => .string ⟨s.toArray⟩) := by
  have hr := h.fresh.rep
  obtain ⟨A, n, c, rfl, _⟩ := h.fresh.shape
  have hn := Text.n hr
  subst hn
  obtain ⟨hc, hm⟩ := Text.cap hr
  exact ⟨A, c, rfl, hc, hm, Text.src hr⟩

theorem Mine.alloc {w : World} {B : Nat} {xs : List Str} {v : Value} (h : Mine w B xs v) (o : Obj) : Mine (w.alloc o) B xs v := ⟨h.1.alloc o, h.2⟩
theorem Mine.kept {w w' : World} {B : Nat} {row : Option Nat} {xs : List Str} {v : Value} (h : Mine w B xs v) (hg : w.grownBy w' row) (hne : v.ownBlock = none ∨ v.ownBlock ≠ row) : Mine w' B xs v := ⟨h.1.kept hg hne, h.2⟩
/-- A text's row is not the block that the world makes next. -/
theorem Mine.ne_new {w : World} {B : Nat} {xs : List Str} {v : Value} (h : Mine w B xs v) : v.ownBlock = none ∨ v.ownBlock ≠ some w.heap.size := by
  right; intro e; have := h.1.lt _ e; omega
theorem Mine.lies {w : World} {B n c : Nat} {A : Option Addr} {xs : List Str} (h : Mine w B xs (.slice A n c)) : (A = none ∧ c = 0 ∧ xs = []) ∨ ∃ g, A = some ⟨g, 0, none⟩ := by
  rcases h.1.2 with ⟨h1, h2⟩ | ⟨g, cap, cur, h1, _⟩
  · cases h1
    refine .inl ⟨rfl, rfl, ?_⟩
    exact List.eq_nil_of_length_eq_zero h2
  · cases h1
    exact .inr ⟨g, rfl⟩
theorem Mine.src {w : World} {B c : Nat} {A : Option Addr} {xs : List Str} (h : Mine w B xs (.slice A xs.length c)) : Src w 1 A xs.length (xs.map fun s => .string ⟨s.toArray⟩) := by
  obtain ⟨_, _, e, _, _, hS⟩ := h.shape
  cases e
  exact hS
theorem strs_one (xs : List Str) : ∀ u ∈ xs.map (fun s => (.string ⟨s.toArray⟩ : Value)), u.oneCell' = true := by
  intro u hu; simp at hu; obtain ⟨s, _, rfl⟩ := hu; rfl

theorem sizeOf_runT {P : Program} {e : TypeId} {i : TypeInfo} (hi : P.info? e = some i) (w : World) : (sizeOf e).run P w = .ok i.size w := by
  simp [sizeOf, typeInfo, hi]
/-- 't[i:]', 't[i+1:]', 't[:i]', the address a letter. -/
theorem Try.cutTail (A : Option Addr) (n c i : Nat) (hij : i ≤ n) : ∃ A', A' = (if c = i then A else A.map fun a => a.add i) ∧
    (∀ W, (Instr.sliceAt 35 (.slice A n c) (some (.int .i64 i)) none none).run Try.prog W = .ok (.slice A' (n - i) (c - i)) W) ∧
    (∀ W, (Instr.slice 35 (.slice A n c) (some (.int .i64 i)) none none).run Try.prog W = .ok (.slice A' (n - i) (c - i)) W) := by
  have ht : Try.prog.underlying 35 = some (.slice (Try.prog.elem 35)) := by kernel_rfl
  obtain ⟨ii, hi0, hi1, hi2, hi3⟩ := info_parts Try.infoStr
  have he : Try.prog.elem 35 = 9 := by kernel_rfl
  have h : ∀ W, (Instr.slice 35 (.slice A n c) (some (.int .i64 i)) none none).run Try.prog W = .ok (.slice (if c = i then A else A.map fun a => a.add i) (n - i) (c - i)) W := by
    intro W
    rw [run_slice_l (h0 := by omega) (h1 := by omega) (ht := ht), he, sizeOf_runT hi0, hi2]
    simp [Result.andThen, sliced]
  exact ⟨_, rfl, fun W => by rw [run_sliceAt_slice (h := ht)]; exact h W, h⟩
theorem Try.cutTail1 (A : Option Addr) (n c i : Nat) (hij : i + 1 ≤ n) : ∃ A', A' = (if c = i + 1 then A else A.map fun a => a.add (i + 1)) ∧
    (∀ W, (Instr.sliceAt 35 (.slice A n c) (some (.int .i64 ((i : Int) + 1))) none none).run Try.prog W = .ok (.slice A' (n - (i + 1)) (c - (i + 1))) W) ∧
    (∀ W, (Instr.slice 35 (.slice A n c) (some (.int .i64 ((i : Int) + 1))) none none).run Try.prog W = .ok (.slice A' (n - (i + 1)) (c - (i + 1))) W) := Try.cutTail A n c (i + 1) hij
theorem Try.cutHead (A : Option Addr) (n c i : Nat) (hij : i ≤ c) :
    (∀ W, (Instr.sliceAt 35 (.slice A n c) none (some (.int .i64 i)) none).run Try.prog W = .ok (.slice A i c) W) ∧
    (∀ W, (Instr.slice 35 (.slice A n c) none (some (.int .i64 i)) none).run Try.prog W = .ok (.slice A i c) W) := by
  have ht : Try.prog.underlying 35 = some (.slice (Try.prog.elem 35)) := by kernel_rfl
  obtain ⟨ii, hi0, hi1, hi2, hi3⟩ := info_parts Try.infoStr
  have he : Try.prog.elem 35 = 9 := by kernel_rfl
  have e0 : (A.map fun a => a.add 0) = A := by cases A <;> simp [Addr.add]
  have h : ∀ W, (Instr.slice 35 (.slice A n c) none (some (.int .i64 i)) none).run Try.prog W = .ok (.slice A i c) W := by
    intro W
    rw [run_slice_h (h0 := by omega) (h2 := by omega) (ht := ht), he, sizeOf_runT hi0, hi2]
    simp [Result.andThen, sliced, e0]
  exact ⟨fun W => by rw [run_sliceAt_slice (h := ht)]; exact h W, h⟩
theorem Src.tailed {w : World} {n c i : Nat} {A C : Option Addr} {us : List Value} (h : Src w 1 A n us) (hi : i ≤ n) (hc : n ≤ c) (e : C = (if c = i then A else A.map fun a => a.add i)) : Src w 1 C (n - i) (us.drop i) := by
  have := h.cut hi hc
  rw [Nat.mul_one] at this
  rw [e]; exact this
theorem Rolls.setCell {B b : Nat} {w w' : World} (h : Rolls B b w w') {p : Addr} (hp : B ≤ p.block) (u : Value) : Rolls B b w (w'.setCell p u) :=
  ⟨h.os, h.tape, h.output, by simpa using h.size, fun k hk hb => (Below.heap_setCell w' p u k (by omega)).trans (h.block k hk hb)⟩
theorem Rd.setCell {w : World} {b m : Nat} (h : Rd w b m) {p : Addr} (hp : b < p.block) (u : Value) : Rd (w.setCell p u) b m := h.keep (B := p.block) ((Below.refl _ w).setCell (Nat.le_refl _) u) hp

set_option maxHeartbeats 8000000 in
theorem spec_l30Turn_any (b m : Nat) (A : Option Addr) (n c : Nat) (ts : List Str) (w : World) (lo hi : Nat) (h : Rd w b m) (hm : m ≤ 700000) (hr : Rep w lo hi (encText ts) (.slice A n c)) (hh : hi ≤ w.heap.size) (hts : ∀ s ∈ ts, s.length ≤ 20) (htl : ts.length ≤ 1000) :
    Calls Try.prog 44 #[.pointer (some ⟨b, 0, none⟩), .slice A n c] w fun e w' => ∃ (xs : List Str) (v : Value) (m' : Nat), e = .returned v ∧ Mine w' w.heap.size xs v ∧ xs.length ≤ ts.length + 4 ∧ Rolls w.heap.size b w w' ∧ Rd w' b m' ∧ m' ≤ m + 14 := by
  have hlt := h.lt
  have hl := Text.n hr
  subst hl
  obtain ⟨i, hi0, hi1, hi2, hi3⟩ := info_parts Try.infoStr
  have hS : Src (w.alloc (.cells #[] 9)) 1 A ts.length (ts.map fun s => .string ⟨s.toArray⟩) := Text.src (hr.keep ((Below.refl _ _).alloc (Nat.le_refl _) _) hh)
  go_enter Try.func44, Try.ntmps44
  go_wp2_with (at_builtin; refine wpList_append_src _ rfl (.tmp 9) (.tmp 10) _ rfl w.heap.size 9 i _ 1 16 Try.underlying35 hi0 hi1 hi2 hi3 rfl (by omega) _ 0 _ rfl (World.ownsRow_made w #[] 0 (Nat.le_refl _) (Nat.zero_le _) rfl) _ ts.length c _ rfl hS ?e2 ?e3 ?e4 ?e5 ?_)
  case e2 => intro u hu; simp at hu; obtain ⟨s, _, rfl⟩ := hu; rfl
  case e3 => unfold maxLen; omega
  case e4 => omega
  case e5 => simp
  intro A1 c1 w1 hown hg hat
  have hM1 : Mine w1 w.heap.size ts (.slice A1 (0 + ts.length) c1) := ⟨by simpa using hown, hts⟩
  rw [Nat.zero_add] at hM1
  have hrow : ∀ g, (Value.slice (some ⟨w.heap.size, 0, none⟩) 0 0).ownBlock = some g → w.heap.size ≤ g := fun g hg => by simp [Value.ownBlock] at hg; omega
  have hR1 : Rolls w.heap.size b w w1 := ((Rolls.refl _ _ _).alloc (Nat.le_refl _) _).grown hg (by simp) hrow
  have hD1 : Rd w1 b m := (h.alloc _).grown hg (fun g e => Nat.lt_of_lt_of_le hlt (hrow g e))
  have hs1 := hR1.size
  clear hown hat hS hr
  go_wp2_with fail
  refine Calls.mono (spec_pick_any b m 4 w1 hD1 (by omega)) ?_
  rintro e w2 ⟨q, rfl, q0, q1, z1, z2, -⟩
  obtain ⟨q, rfl⟩ := Int.eq_ofNat_of_zero_le q0
  have hM2 := hM1.rolls z1 hlt
  have hR2 := hR1.trans (z1.mono hs1)
  have hq4 : q ≤ 4 := by omega
  clear q0 q1 hM1 hR1 hD1 z1 hg hrow
  go_wp2
  go_loopw [5, 6] (fun t i wr => ∃ (k : Nat) (xs : List Str) (mm : Nat), i = .int .i64 k ∧ xs.length + k ≤ ts.length + 4 ∧ Mine wr w.heap.size xs t ∧ Rolls w.heap.size b w wr ∧ Rd wr b mm ∧ mm + 3 * k ≤ m + 13) (fun _ i _ => (intOf i).toNat)
  case atStart => exact ⟨q, ts, m + 1, rfl, by omega, by simpa using hM2, hR2, z2, by omega⟩
  case round =>
    obtain ⟨k, xs, mm, rfl, hk8, hM, hR, hD, hmm⟩ := hrel
    by_cases hk : 0 < k
    · have hk' : (0 : Int) < (k : Int) := by omega
      have hsz := hR.size
      obtain ⟨A2, c2, rfl, hc2, hmx2, _⟩ := hM.shape
      go_wp2_with fail
      refine Calls.mono (spec_pick_any b mm _ wr hD (by omega)) ?_
      rintro e w3 ⟨p, rfl, p0, p1, y1, y2, -⟩
      obtain ⟨p, rfl⟩ := Int.eq_ofNat_of_zero_le p0
      have hp : p ≤ xs.length := by omega
      have hM3 := hM.rolls y1 hlt
      have hs3 := y1.size
      have hR3 := hR.trans (y1.mono hsz)
      clear p0 p1
      go_wp2_with fail
      refine Calls.mono (spec_pick_any b (mm + 1) _ w3 y2 (by omega)) ?_
      rintro e w4 ⟨d, rfl, d0, d1, x1, x2, -⟩
      have hM4 := hM3.rolls x1 hlt
      have hs4 := x1.size
      have hR4 := hR3.trans (x1.mono (by omega))
      have hs4' : w.heap.size ≤ w4.heap.size := hR4.size
      obtain ⟨_, _, e9, _, _, hS4⟩ := hM4.shape
      cases e9
      by_cases d0' : d = 0
      · subst d0'
        by_cases hlen : xs.length < 10
        · have hlen' : (xs.length : Int) < 10 := by omega
          have hM5 := hM4.alloc (.cells #[] 9)
          have hS5 := hM5.src.take hp
          rw [Nat.mul_one] at hS5
          go_wp2_with (at_builtin; refine wpList_append_src _ rfl (.tmp 39) (.tmp 42) _ rfl w.heap.size 9 i _ 1 16 Try.underlying35 hi0 hi1 hi2 hi3 rfl (by omega) _ 0 _ rfl (World.ownsRow_made w4 #[] 0 (by omega) (Nat.zero_le _) rfl) _ p c2 _ rfl hS5 ?e2 ?e3 ?e4 ?e5 ?_)
          case e2 => exact fun u hu => strs_one xs u (List.mem_of_mem_take hu)
          case e3 => unfold maxLen; omega
          case e4 => omega
          case e5 => simp; omega
          intro A5 c5 w5 hown5 hg5 hat5
          have hB5 : ∀ g, (Value.slice A5 p c5).ownBlock = some g → w4.heap.size ≤ g := by
            intro g hg
            rw [hg] at hat5
            simp [Value.ownBlock] at hat5
            omega
          have hr5 : ∀ g, (Value.slice (some ⟨w4.heap.size, 0, none⟩) 0 0).ownBlock = some g → w.heap.size ≤ g := fun g hg => by simp [Value.ownBlock] at hg; omega
          have hR5 : Rolls w.heap.size b w w5 := (hR4.alloc (by omega) _).grown hg5 (by simp; omega) hr5
          have hD5 : Rd w5 b (mm + 1 + 1) := (x2.alloc _).grown hg5 (fun g e => Nat.lt_of_lt_of_le hlt (hr5 g e))
          have hM6 : Mine w5 w.heap.size xs (.slice A2 xs.length c2) := hM5.kept hg5 hM4.ne_new
          have hlp : (xs.take p).length = p := by simp; omega
          have hX5 : Mine w5 w.heap.size (xs.take p) (.slice A5 p c5) := ⟨by rw [hlp, List.map_take]; exact hown5, fun s hs => hM4.2 s (List.mem_of_mem_take hs)⟩
          have hs5 := hR5.size
          clear hown5 hS5 hM5 hg5
          go_wp2_with fail
          refine Calls.mono (spec_l30Line_any b (mm + 1 + 1) w5 hD5 (by omega)) ?_
          rintro e w6 ⟨x, hx, rfl, v1, v2⟩
          have hs6 := v1.size
          have hX6 := hX5.rolls v1 hlt
          have hM7 := hM6.rolls v1 hlt
          have hR6 := hR5.trans (v1.mono hs5)
          go_wp2_with (at_builtin; refine wpList_append_src _ rfl (.tmp 44) (.tmp 47) _ rfl w.heap.size 9 i _ 1 16 Try.underlying35 hi0 hi1 hi2 hi3 rfl (by omega) _ p _ rfl (hlp ▸ (hX6.1.alloc _)) _ 1 1 _ rfl (src_lit w6 9 [x]) ?e2 ?e3 ?e4 ?e5 ?_)
          case e2 => intro u hu; simp at hu; subst hu; rfl
          case e3 => unfold maxLen; omega
          case e4 => omega
          case e5 => simp; omega
          intro A7 c7 w7 hown7 hg7 hat7
          have hne7 : (Value.slice A2 xs.length c2).ownBlock = none ∨ (Value.slice A2 xs.length c2).ownBlock ≠ (Value.slice A5 p c5).ownBlock := by
            cases hA : (Value.slice A2 xs.length c2).ownBlock with
            | none => exact .inl rfl
            | some g =>
              refine .inr fun e => ?_
              have q1 := (hM4.1.lt g hA).2
              have q2 := hB5 g e.symm
              omega
          have hM8 := (hM7.alloc (.cells #[.string ⟨x.toArray⟩] 9)).kept hg7 hne7
          have hrow7 := fun g hg => (hX6.1.lt g hg).1
          have hR7 : Rolls w.heap.size b w w7 := (hR6.alloc (by omega) _).grown hg7 (by simp; omega) hrow7
          have hD7 : Rd w7 b (mm + 1 + 1 + 1) := (v2.alloc _).grown hg7 (fun g e => Nat.lt_of_lt_of_le hlt (hrow7 g e))
          have hs7 := hR7.size
          obtain ⟨C9, eC9, hq9, hq9'⟩ := Try.cutTail A2 xs.length c2 p hp
          have hS8 := hM8.src.tailed hp hc2 eC9
          clear eC9
          go_wp2_with (at_builtin; refine wpList_append_src _ rfl (.tmp 49) (.tmp 52) _ rfl w.heap.size 9 i _ 1 16 Try.underlying35 hi0 hi1 hi2 hi3 rfl (by omega) _ (p + 1) _ rfl hown7 _ (xs.length - p) _ _ rfl hS8 ?e2 ?e3 ?e4 ?e5 ?_)
          case e2 => exact fun u hu => strs_one xs u (List.mem_of_mem_drop hu)
          case e3 => unfold maxLen; omega
          case e4 => omega
          case e5 => omega
          intro A9 c9 w9 hown9 hg9 _
          have hrow9 := fun g hg => (hown7.lt g hg).1
          have hR9 : Rolls w.heap.size b w w9 := hR7.grown hg9 hs7 hrow9
          have hD9 : Rd w9 b (mm + 1 + 1 + 1) := hD7.grown hg9 (fun g e => Nat.lt_of_lt_of_le hlt (hrow9 g e))
          have hl9 : (xs.take p ++ [x] ++ xs.drop p).length = p + 1 + (xs.length - p) := by simp; omega
          have hM9 : Mine w9 w.heap.size (xs.take p ++ [x] ++ xs.drop p) (.slice A9 (p + 1 + (xs.length - p)) c9) := ⟨by rw [hl9]; simpa [List.map_take, List.map_drop] using hown9, fun s hs => by
            simp only [List.mem_append, List.mem_cons, List.not_mem_nil, or_false] at hs
            rcases hs with (hs | rfl) | hs
            · exact hM4.2 s (List.mem_of_mem_take hs)
            · exact hx
            · exact hM4.2 s (List.mem_of_mem_drop hs)⟩
          go_wp2
          go_roundw
          case rel => exact ⟨k - 1, _, mm + 3, by go_num, by rw [hl9]; omega, hM9, hR9, hD9, by omega⟩
          case measure => simp [intOf]; omega
        · go_wp2
          go_roundw
          case rel => exact ⟨k - 1, xs, mm + 2, by go_num, by omega, hM4, hR4, x2, by omega⟩
          case measure => simp [intOf]; omega
      · by_cases d1' : d = 1
        · subst d1'
          by_cases hpl : p < xs.length
          · have hpl' : (p : Int) < (xs.length : Int) := by omega
            obtain ⟨hq3, hq3'⟩ := Try.cutHead A2 xs.length c2 p (by omega)
            obtain ⟨C4, eC4, hq4, hq4'⟩ := Try.cutTail1 A2 xs.length c2 p (by omega)
            have hwp : IntKind.i64.wrap ((p : Int) + 1) = (p : Int) + 1 := by rw [IntKind.wrap_i64]; omega
            have hp0 : (0 : Int) ≤ (p : Int) := by omega
            have hB5 := hM4.alloc (.cells #[] 9)
            have hS5 := hB5.src.take hp
            rw [Nat.mul_one] at hS5
            have HeC := Lib.hid eC4
            clear eC4
            go_wp2
            go_region_held3 (fun _ => True) (trivial) (first
              | (
                refine step_append_src _ (by rfl) (.tmp 60) (.tmp 63) _ (by rfl) w.heap.size 9 i _ 1 16 Try.underlying35 hi0 hi1 hi2 hi3 (by rfl) (by omega) _ 0 [] (by rfl) (show (w4.alloc (.cells #[] 9)).drew.ownsRow w.heap.size 9 1 (.slice (some ⟨w4.heap.size, 0, none⟩) 0 0) 0 [] from World.ownsRow_made w4 #[] 0 (by omega) (Nat.zero_le _) rfl) A2 p c2 _ (by rfl) (show Src (w4.alloc (.cells #[] 9)).drew 1 A2 p _ from hS5) (fun u hu => strs_one xs u (List.mem_of_mem_take hu)) (by unfold maxLen; omega) (by omega) (by simp; omega) ?_
                intro A5 c5 w5 hown5 hg5 hat5
                rw [Nat.zero_add] at hown5 hat5
                change World.grownBy _ w5 (Value.slice (some ⟨w4.heap.size, 0, none⟩) 0 0).ownBlock at hg5
                have hM6 : Mine w5 w.heap.size xs (.slice A2 xs.length c2) := Mine.kept (w := (w4.alloc (.cells #[] 9)).drew) ⟨hB5.1, hB5.2⟩ hg5 hM4.ne_new
                have hr5 : ∀ g, (Value.slice (some ⟨w4.heap.size, 0, none⟩) 0 0).ownBlock = some g → w.heap.size ≤ g := fun g hg => by simp [Value.ownBlock] at hg; omega
                have hR5 : Rolls w.heap.size b w w5 := Rolls.grown (w' := (w4.alloc (.cells #[] 9)).drew) (let q := hR4.alloc (by omega) (.cells #[] 9); ⟨q.os, q.tape, q.output, q.size, q.block⟩) hg5 (by simp; omega) hr5
                have hD5 : Rd w5 b (mm + 1 + 1) := Rd.grown (w := (w4.alloc (.cells #[] 9)).drew) ((x2.alloc _).keep ((Below.refl _ _).drew) (x2.alloc (.cells #[] 9)).lt) hg5 (fun g e => Nat.lt_of_lt_of_le hlt (hr5 g e))
                have hS6 := hM6.src.tailed (i := p + 1) (by omega) hc2 HeC.out)
              | (
                refine step_append_src _ (by rfl) (.tmp 64) (.tmp 68) _ (by rfl) w.heap.size 9 i _ 1 16 Try.underlying35 hi0 hi1 hi2 hi3 (by rfl) (by omega) _ p _ (by first | rfl | (simp [Act.eval]; done) | (simp [Act.eval]; trace_state; done)) hown5 C4 (xs.length - (p + 1)) (c2 - (p + 1)) _ (by rfl) hS6 (fun u hu => strs_one xs u (List.mem_of_mem_drop hu)) (by unfold maxLen; omega) (by omega) (by have := hR5.size; omega) ?_
                intro A7 c7 w7 hown7 hg7 hat7
                change World.grownBy _ w7 (Value.slice A5 p c5).ownBlock at hg7))
            have hrow7 := fun g hg => (hown5.lt g hg).1
            have hs5 := hR5.size
            have hR7 : Rolls w.heap.size b w w7 := hR5.grown hg7 hs5 hrow7
            have hD7 : Rd w7 b (mm + 1 + 1) := hD5.grown hg7 (fun g e => Nat.lt_of_lt_of_le hlt (hrow7 g e))
            have hl7 : (xs.take p ++ xs.drop (p + 1)).length = p + (xs.length - (p + 1)) := by simp; omega
            have hM7 : Mine w7 w.heap.size (xs.take p ++ xs.drop (p + 1)) (.slice A7 (p + (xs.length - (p + 1))) c7) := ⟨by rw [hl7]; simpa [List.map_take, List.map_drop] using hown7, fun s hs => by
              rcases List.mem_append.1 hs with hs | hs
              · exact hM4.2 s (List.mem_of_mem_take hs)
              · exact hM4.2 s (List.mem_of_mem_drop hs)⟩
            clear hown5 hown7 hg5 hg7 hat5 hat7 hM6 hS6 hS5 hB5
            go_wp2
            go_roundw
            case rel => exact ⟨k - 1, _, mm + 2, by go_num, by rw [hl7]; omega, hM7, hR7, hD7, by omega⟩
            case measure => simp [intOf]; omega
          · go_wp2
            go_roundw
            case rel => exact ⟨k - 1, xs, mm + 2, by go_num, by omega, hM4, hR4, x2, by omega⟩
            case measure => simp [intOf]; omega
        · by_cases hpl : p < xs.length
          · have hpl' : (p : Int) < (xs.length : Int) := by omega
            rcases hM4.lies with ⟨_, _, hx0⟩ | ⟨g4, hA⟩
            · subst hx0; simp at hpl
            subst hA
            go_wp2_with fail
            refine Calls.mono (spec_l30Line_any b (mm + 1 + 1) w4 x2 (by omega)) ?_
            rintro e w5 ⟨x, hx, rfl, v1, v2⟩
            have hM5 := hM4.rolls v1 hlt
            have hR5 := hR4.trans (v1.mono hs4')
            have hg4 := (hM5.1.lt g4 rfl).1
            obtain ⟨u0, hu0⟩ : ∃ u0, (xs.map fun s => (.string ⟨s.toArray⟩ : Value))[p]? = some u0 := ⟨_, List.getElem?_eq_getElem (by simpa using hpl)⟩
            have hcell := hM5.1.cellAt p (by omega)
            rw [hu0] at hcell
            have hfr := hM5.1.frozenAt p
            have hnew := (hM5.1.stored p (.string ⟨x.toArray⟩)).1
            have hset : (xs.map fun s => (.string ⟨s.toArray⟩ : Value)).set p (.string ⟨x.toArray⟩) = (xs.set p x).map fun s => .string ⟨s.toArray⟩ := by rw [List.map_set]
            rw [hset] at hnew
            have hM6 : Mine (w5.setCell ⟨g4, p, none⟩ (.string ⟨x.toArray⟩)) w.heap.size (xs.set p x) (.slice (some ⟨g4, 0, none⟩) xs.length c2) := ⟨by simpa using hnew, fun s hs => by
              rcases List.mem_or_eq_of_mem_set hs with hs | rfl
              · exact hM4.2 s hs
              · exact hx⟩
            have HM := Lib.hid hM6
            clear hnew hset hu0 hM6 hM5
            go_wp2
            go_roundw
            case rel => exact ⟨k - 1, xs.set p x, mm + 3, by go_num, by simp; omega, by simpa using HM.out, hR5.setCell hg4 _, v2.setCell (Nat.lt_of_lt_of_le hlt hg4) _, by omega⟩
            case measure => simp [intOf]; omega
          · go_wp2
            go_roundw
            case rel => exact ⟨k - 1, xs, mm + 2, by go_num, by omega, hM4, hR4, x2, by omega⟩
            case measure => simp [intOf]; omega
    · go_wp2
      go_ret
      exact ⟨xs, _, mm, rfl, hM, by omega, hR, hD, by omega⟩
end Go.Proofs.Ythjjocimpkjldaa
