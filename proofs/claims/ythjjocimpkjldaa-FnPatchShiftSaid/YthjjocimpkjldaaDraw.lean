/- Walks: the reader that a draw reads its bytes from. -/
import Derived.Test.YthjjocimpkjldaaText
import Derived.Test.YthjjocimpkjldaaAppend
import Derived.Laws.BitsAllLaws
namespace Go.Proofs.Ythjjocimpkjldaa
open Go.RowKit

/-- All blocks below B, other than b, are as they were. -/
structure Rolls (B b : Nat) (w w' : World) : Prop where
  os : w'.os = w.os
  tape : w'.tape = w.tape
  output : w'.output = w.output
  size : w.heap.size ≤ w'.heap.size
  block : ∀ k, k < B → k ≠ b → w'.heap[k]? = w.heap[k]?

def encBytes (bs : List UInt8) : PV := .sl 0 1 (bs.map fun x => .int .u8 x.toNat)

theorem Bytes.n {w : World} {lo hi n c : Nat} {A : Option Addr} {bs : List UInt8} (h : Rep w lo hi (encBytes bs) (.slice A n c)) : n = bs.length := by
  cases h with
  | sl us len cap max nil cell sub => simpa using len.symm
theorem Bytes.cap {w : World} {lo hi n c : Nat} {A : Option Addr} {bs : List UInt8} (h : Rep w lo hi (encBytes bs) (.slice A n c)) : n ≤ c ∧ c ≤ maxLen := by
  cases h with
  | sl us len cap max nil cell sub => exact ⟨cap, max⟩

theorem Bytes.at {w : World} {lo hi n c k : Nat} {A : Option Addr} {bs : List UInt8} (h : Rep w lo hi (encBytes bs) (.slice A n c)) (hk : k < bs.length) :
    ∃ b o x, A = some ⟨b, o, none⟩ ∧ lo ≤ b ∧ b < hi ∧ bs[k]? = some x ∧ w.cell? ⟨b, o + k, none⟩ = some (.int .u8 x.toNat) := by
  have hn := Bytes.n h
  cases h with
  | sl us len cap max nil cell sub =>
    obtain ⟨b, o, e, h1, h2, hc⟩ := cell (by omega)
    have hx : bs[k]? = some bs[k] := List.getElem?_eq_getElem hk
    refine ⟨b, o, bs[k], e, h1, h2, hx, ?_⟩
    rw [hc k (by simpa using hk)]
    have hs := sub k (.int .u8 bs[k].toNat) (by simp [hx])
    revert hs
    generalize us k = u
    intro hs
    cases hs with
    | int k n => rfl

/-- The reader in block b: it has read m times. -/
structure Rd (w : World) (b m : Nat) : Prop where
  mk :: (of : ∃ (A : Option Addr) (c : Nat) (bs : List UInt8), w.heap[b]? = some (Obj.cells #[.slice A bs.length c, .int .i64 m] 65) ∧ Rep w 0 b (encBytes bs) (.slice A bs.length c) ∧ bs.length ≤ 2000)

section
variable {w w' w'' : World} {B b m m' k : Nat}
theorem Rolls.refl (B b : Nat) (w : World) : Rolls B b w w := ⟨rfl, rfl, rfl, Nat.le_refl _, fun _ _ _ => rfl⟩
theorem Rolls.of_below (h : Below B w w') : Rolls B b w w' := ⟨h.os, h.tape, h.output, h.size, fun k hk _ => h.block k hk⟩
theorem Rolls.trans (h : Rolls B b w w') (h' : Rolls B b w' w'') : Rolls B b w w'' := ⟨h'.os.trans h.os, h'.tape.trans h.tape, h'.output.trans h.output, Nat.le_trans h.size h'.size, fun k hk hb => (h'.block k hk hb).trans (h.block k hk hb)⟩
theorem Rolls.mono {B' : Nat} (h : Rolls B b w w') (hB : B' ≤ B) : Rolls B' b w w' := ⟨h.os, h.tape, h.output, h.size, fun k hk hb => h.block k (Nat.lt_of_lt_of_le hk hB) hb⟩
theorem Rolls.below (h : Rolls B b w w') (hb : k ≤ b) (hB : k ≤ B) : Below k w w' := ⟨h.os, h.tape, h.output, h.size, fun j hj => h.block j (by omega) (by omega)⟩
theorem Rolls.same {lo hi : Nat} (h : Rolls B b w w') (hB : hi ≤ B) (hb : b < lo ∨ hi ≤ b) : Same lo hi w w' := fun k h1 h2 => h.block k (by omega) (by omega)
theorem Rd.lt (h : Rd w b m) : b < w.heap.size := by
  obtain ⟨A, c, bs, h1, _⟩ := h.of
  exact (Array.getElem?_eq_some_iff.1 h1).1
theorem Rd.keep (h : Rd w b m) (hb : Below B w w') (hB : b < B) : Rd w' b m := by
  obtain ⟨A, c, bs, h1, h2, h3⟩ := h.of
  exact ⟨A, c, bs, (hb.block _ hB).trans h1, h2.keep hb (Nat.le_of_lt hB), h3⟩
end

theorem heap_new (w : World) (o : Obj) : (w.alloc o).heap[w.heap.size]? = some o := by unfold World.alloc; simp

theorem spec_l30Open_any (A : Option Addr) (n c : Nat) (bs : List UInt8) (w : World) (lo hi : Nat) (h : Rep w lo hi (encBytes bs) (.slice A n c)) (hh : hi ≤ w.heap.size) :
    Calls Try.prog 29 #[.slice A n c] w fun e w' => e = .returned (.pointer (some ⟨w.heap.size, 0, none⟩)) ∧ Below w.heap.size w w' ∧ Rd w' w.heap.size 0 := by
  have hl := Bytes.n h
  obtain ⟨hc, hm⟩ := Bytes.cap h
  subst hl
  by_cases hb : bs.length ≤ 2000
  · go_enter Try.func29, Try.ntmps29
    go_wp2
    go_ret
    have hbel : Below w.heap.size w (w.alloc (Obj.cells #[.slice A bs.length c, .int .i64 0] 65)) := (Below.refl _ _).alloc (Nat.le_refl _) _
    exact ⟨rfl, hbel, ⟨A, c, bs, heap_new _ _, (h.mono (Nat.zero_le _) hh).keep hbel (Nat.le_refl _), hb⟩⟩
  · go_enter Try.func29, Try.ntmps29
    go_wp2
    go_ret
    have hbel : Below w.heap.size w (w.alloc (Obj.cells #[.slice A 2000 c, .int .i64 0] 65)) := (Below.refl _ _).alloc (Nat.le_refl _) _
    have htl : (bs.take 2000).length = 2000 := by simp; omega
    have h2 : Rep w 0 w.heap.size (encBytes (bs.take 2000)) (.slice A 2000 c) := by
      cases h.mono (Nat.zero_le lo) hh with
      | sl us len cap max nil cell sub =>
        refine .sl us (by simp; omega) (by omega) max nil (fun _ => ?_) (fun j p hj => sub j p ?_)
        · obtain ⟨b, o, e, q1, q2, q3⟩ := cell (by omega)
          exact ⟨b, o, e, q1, q2, fun j hj => q3 j (by simp at hj ⊢; omega)⟩
        · rw [List.map_take] at hj
          rw [List.getElem?_take] at hj
          split at hj
          · exact hj
          · cases hj
    exact ⟨rfl, hbel, ⟨A, c, bs.take 2000, by rw [htl]; exact heap_new _ _, by rw [htl]; exact h2.keep hbel (Nat.le_refl _), by omega⟩⟩

theorem Rd.stepped {w : World} {b m m' : Nat} {A : Option Addr} {c : Nat} {bs : List UInt8} (hb : w.heap[b]? = some (Obj.cells #[.slice A bs.length c, .int .i64 m] 65)) (hr : Rep w 0 b (encBytes bs) (.slice A bs.length c)) (hlen : bs.length ≤ 2000) :
    Rolls w.heap.size b w (w.setCell ⟨b, 1, none⟩ (.int .i64 m')) ∧ Rd (w.setCell ⟨b, 1, none⟩ (.int .i64 m')) b m' ∧ (w.setCell ⟨b, 1, none⟩ (.int .i64 m')).heap.size = w.heap.size := by
  refine ⟨⟨rfl, rfl, rfl, by simp, fun k hk hkb => Below.heap_setCell w ⟨b, 1, none⟩ _ k (by simpa using hkb)⟩, ⟨A, c, bs, ?_, ?_, hlen⟩, by simp⟩
  · unfold World.setCell
    rw [Array.getElem?_modify]
    simp [hb]
  · exact hr.same ((Same.refl _ _ _).setCell (p := ⟨b, 1, none⟩) (.inr (Nat.le_refl b)) _)

set_option maxRecDepth 10000 in
theorem i64_xor_nat (a b : Nat) (ha : a < 9223372036854775808) (hb : b < 9223372036854775808) : bits .xor .i64 (a : Int) (b : Int) = ((a ^^^ b : Nat) : Int) := by
  have hx : a ^^^ b < 2 ^ 63 := Nat.xor_lt_two_pow (by omega) (by omega)
  show IntKind.i64.wrap ((BitVec.ofInt 64 (a : Int) ^^^ BitVec.ofInt 64 (b : Int)).toNat : Int) = _
  rw [BitVec.toNat_xor, ofInt_u64 a (by omega), ofInt_u64 b (by omega), IntKind.wrap_i64]
  omega
set_option maxRecDepth 10000 in
theorem mixed_val (x y k l : Nat) (hx : x < 256) (hy : y < 256) (hk : k ≤ 1000000) :
    ∃ Z : Nat, Z < 9223372036854775808 ∧ wrap64 (wrap64 (wrap64 (wrap64 (wrap64 (x : Int) * 131) + wrap64 (wrap64 (y : Int) * 1117)) + (k : Int) * 29) + wrap64 (wrap64 ((k : Int) / (l : Int)) * 53)) = (Z : Int) := by
  have hq : k / l ≤ k := Nat.div_le_self _ _
  have hd : (k : Int) / (l : Int) = ((k / l : Nat) : Int) := rfl
  rw [hd]
  generalize k / l = q at hq
  refine ⟨x * 131 + y * 1117 + k * 29 + q * 53, by omega, ?_⟩
  rw [IntWalk.wrap64_in (x : Int) (by omega), IntWalk.wrap64_in (y : Int) (by omega), IntWalk.wrap64_in (q : Int) (by omega), IntWalk.wrap64_in ((x : Int) * 131) (by omega), IntWalk.wrap64_in ((y : Int) * 1117) (by omega),
    IntWalk.wrap64_in ((q : Int) * 53) (by omega), IntWalk.wrap64_in ((x : Int) * 131 + (y : Int) * 1117) (by omega), IntWalk.wrap64_in ((x : Int) * 131 + (y : Int) * 1117 + (k : Int) * 29) (by omega), IntWalk.wrap64_in _ (by omega)]
  omega
theorem mixed_turned (Z : Nat) (hZ : Z < 9223372036854775808) (n : Int) (hn : 0 < n) : ∃ v : Int, (bits BinOp.xor IntKind.i64 (Z : Int) (wrap64 ((Z : Int).tdiv 64))).tmod n = v ∧ 0 ≤ v ∧ v < n := by
  have hd : (Z : Int).tdiv 64 = ((Z / 64 : Nat) : Int) := rfl
  have : Z / 64 ≤ Z := Nat.div_le_self _ _
  rw [hd, IntWalk.wrap64_in _ (by omega), i64_xor_nat _ _ hZ (by omega)]
  exact ⟨_, rfl, Int.tmod_nonneg _ (by omega), Int.tmod_lt_of_pos _ hn⟩

set_option maxRecDepth 100000 in
set_option maxHeartbeats 1000000 in
theorem spec_pick_any (b m : Nat) (n : Int) (w : World) (h : Rd w b m) (hm : m ≤ 1000000) :
    Calls Try.prog 43 #[.pointer (some ⟨b, 0, none⟩), .int .i64 n] w fun e w' => ∃ v : Int, e = .returned (.int .i64 v) ∧ 0 ≤ v ∧ (v < n ∨ v = 0) ∧ Rolls w.heap.size b w w' ∧ Rd w' b (m + 1) ∧ w'.heap.size = w.heap.size := by
  have hlt := h.lt
  obtain ⟨A, c, bs, hb, hr, hlen⟩ := h.of
  obtain ⟨hc, hmx⟩ := Bytes.cap hr
  have p0 : w.cell? ⟨b, 0, none⟩ = some (.slice A bs.length c) := by simp [World.cell?, hb]
  have p1 : w.cell? ⟨b, 1, none⟩ = some (.int .i64 m) := by simp [World.cell?, hb]
  have f1 : w.frozen? ⟨b, 1, none⟩ = false := by simp [World.frozen?, hb]
  obtain ⟨z1, z2, z3⟩ := Rd.stepped (m' := m + 1) hb hr hlen
  by_cases h1 : n < 1
  · go_enter Try.func43, Try.ntmps43
    go_wp2
    go_ret
    exact ⟨0, rfl, by omega, .inr rfl, z1, z2, z3⟩
  · by_cases h2 : bs.length = 0
    · go_enter Try.func43, Try.ntmps43
      go_wp2
      go_ret
      exact ⟨0, rfl, by omega, .inr rfl, z1, z2, z3⟩
    · by_cases h3 : m < bs.length
      · have h3' : (m : Int) < (bs.length : Int) := by omega
        obtain ⟨b1, o1, x1, rfl, _, g1, _, g3⟩ := Bytes.at hr h3
        have g4 : (w.setCell ⟨b, 1, none⟩ (.int .i64 ((m + 1 : Nat) : Int))).cell? ⟨b1, o1 + m, none⟩ = some (.int .u8 x1.toNat) := by rw [← g3]; exact World.cell?_setCell_other _ _ _ _ (by simp)
        go_enter Try.func43, Try.ntmps43
        go_wp2
        go_ret
        have hx : x1.toNat < 256 := x1.toNat_lt
        refine ⟨(x1.toNat : Int).tmod n, ret_int (by rw [IntWalk.wrap64_in _ (by omega)]), Int.tmod_nonneg _ (by omega), .inl (Int.tmod_lt_of_pos _ (by omega)), z1, z2, z3⟩
      · have hl0 : 0 < bs.length := by omega
        obtain ⟨b1, o1, x1, rfl, _, g1, _, g3⟩ := Bytes.at hr (Nat.mod_lt m hl0)
        obtain ⟨b2, o2, x2, e2, _, _, _, g4⟩ := Bytes.at hr (Nat.mod_lt (m * 7 + 3) hl0)
        simp only [Option.some.injEq, Addr.mk.injEq, and_true] at e2
        obtain ⟨rfl, rfl⟩ := e2
        go_enter Try.func43, Try.ntmps43
        go_wp2
        refine name_world ?_
        intro W hW
        have q0 : W.cell? ⟨b, 0, none⟩ = some (.slice (some ⟨b1, o1, none⟩) bs.length c) := by rw [hW, ← p0]; exact World.cell?_setCell_other _ _ _ _ (by simp)
        have q1 : W.cell? ⟨b1, o1 + m % bs.length, none⟩ = some (.int .u8 x1.toNat) := by rw [hW, ← g3]; exact World.cell?_setCell_other _ _ _ _ (by simp)
        have q2 : W.cell? ⟨b1, o1 + (m * 7 + 3) % bs.length, none⟩ = some (.int .u8 x2.toNat) := by rw [hW, ← g4]; exact World.cell?_setCell_other _ _ _ _ (by simp)
        rw [show (w.setCell ⟨b, 1, none⟩ (.int .i64 ((m + 1 : Nat) : Int))) = W from hW.symm] at z1 z2 z3
        clear hW
        have hl0' : (0 : Int) < (bs.length : Int) := by omega
        have r1 := Nat.mod_lt m hl0
        have r3 := Int.emod_nonneg ((m : Int) * 7 + 3) (b := (bs.length : Int)) (by omega)
        have r4 := Int.emod_lt_of_pos ((m : Int) * 7 + 3) hl0'
        refine wp_region_quiet_lit (by kernel_rfl) (by kernel_rfl) ?_; try simp only [List.append_eq, List.cons_append, List.nil_append]
        repeat (go_big_quiet_step (((fail))))
        (refine wpQuiet_nil ?_; intro _ hw'; obtain ⟨nq, hw''⟩ := hw'; subst hw'')
        go_wp2
        go_ret
        obtain ⟨Z, hZ, eZ⟩ := mixed_val x1.toNat x2.toNat m bs.length x1.toNat_lt x2.toNat_lt hm
        obtain ⟨v, ev, v1, v2⟩ := mixed_turned Z hZ n (by omega)
        exact ⟨v, ret_int (by rw [eZ, ev]), v1, .inl v2, ⟨z1.os, z1.tape, z1.output, z1.size, z1.block⟩, ⟨by obtain ⟨A9, c9, bs9, e1, e2, e3⟩ := z2.of; exact ⟨A9, c9, bs9, e1, e2.drewN _, e3⟩⟩, z3⟩
end Go.Proofs.Ythjjocimpkjldaa
