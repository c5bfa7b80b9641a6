/- Several of my texts in one: Delete, CDo1. -/
import Derived.Test.YtmickenajhppoaaGreatDoorInsert
import Derived.Test.YtmickenajhppoaaGreatDoorZ10
import Derived.Test.YtmickenajhppoaaGreatDoorZ32
import Derived.Lib.SliceRun
import Derived.Deep.RegionLaw
import Derived.Test.YtmickenajhppoaaGreatDoorZ12
/- Walks: slices.Delete of one file out of a row of the call's own; slices.IndexFunc with ChangesDo's closure. -/
namespace Go.Proofs.YtmickenajhppoaaGreatDoor
open Go.RowKit

theorem grown_setCell (w : World) (g o : Nat) (v : Value) : w.grownBy (w.setCell ⟨g, o, none⟩ v) (some g) :=
  ⟨(Below.refl 0 w |>.setCell (p := ⟨g, o, none⟩) (Nat.zero_le _) v).os, (Below.refl 0 w |>.setCell (p := ⟨g, o, none⟩) (Nat.zero_le _) v).tape, (Below.refl 0 w |>.setCell (p := ⟨g, o, none⟩) (Nat.zero_le _) v).output, by simp, fun k _ hne => Below.heap_setCell w _ v k (fun e => hne (by rw [e]))⟩
theorem grown_trans {w w1 w2 : World} {row : Option Nat} (h1 : w.grownBy w1 row) (h2 : w1.grownBy w2 row) : w.grownBy w2 row :=
  ⟨h2.os.trans h1.os, h2.tape.trans h1.tape, h2.output.trans h1.output, Nat.le_trans h1.size h2.size, fun k hk hne => (h2.block k (Nat.lt_of_lt_of_le hk h1.size) hne).trans (h1.block k hk hne)⟩
theorem grown_setCells (g : Nat) : ∀ (vs : List Value) (o : Nat) (w : World), w.grownBy (w.setCells g o vs) (some g)
  | [], _, _ => ⟨rfl, rfl, rfl, Nat.le_refl _, fun _ _ _ => rfl⟩
  | v :: r, o, w => grown_trans (grown_setCell w g o v) (grown_setCells g r (o + 1) _)
theorem heap_setCells (g t : Nat) : ∀ (vs : List Value) (o : Nat) (w : World) (cur : List Value), w.heap[g]? = some (.cells cur.toArray t (0, 0)) → o + vs.length ≤ cur.length →
    (w.setCells g o vs).heap[g]? = some (.cells (cur.take o ++ (vs ++ cur.drop (o + vs.length))).toArray t (0, 0))
  | [], o, w, cur, h, _ => by
    rw [List.length_nil, Nat.add_zero, List.nil_append, List.take_append_drop]
    exact h
  | v :: r, o, w, cur, h, hl => by
    rw [List.length_cons] at hl
    have h1 := heap_setCell_same w g o _ t v h
    have h2 : (w.setCell ⟨g, o, none⟩ v).heap[g]? = some (.cells (cur.set o v).toArray t (0, 0)) := by simpa using h1
    have h3 := heap_setCells g t r (o + 1) _ _ h2 (by rw [List.length_set]; omega)
    have e1 : (cur.set o v).take (o + 1) = cur.take o ++ [v] := take_set1 (by omega) v
    have e2 : (cur.set o v).drop (o + 1 + r.length) = cur.drop (o + 1 + r.length) := List.drop_set_of_lt (by omega)
    rw [e1, e2] at h3
    have e3 : cur.take o ++ (v :: r ++ cur.drop (o + (v :: r).length)) = cur.take o ++ [v] ++ (r ++ cur.drop (o + 1 + r.length)) := by
      rw [List.length_cons, show o + (r.length + 1) = o + 1 + r.length by omega]
      simp
    rw [e3]
    exact h3
theorem run_clear_one {P : Program} (w : World) (t e ty : TypeId) (z a0 a1 : Value) (ht : P.underlying t = some (.slice e)) (hv : ∀ w, (zeroValue e).run P w = .ok z w) (hz : z.cells = #[a0, a1]) (h0 : a0.oneCell' = true) (h1 : a1.oneCell' = true) (b o c : Nat)
    (hc : ∀ j, j < 2 → (w.cell? ⟨b, o + j, none⟩).isSome = true) (hf : ∀ j, j < 2 → w.frozen? ⟨b, o + j, none⟩ = false) :
    (Builtin.clear_ #[t] ty #[.slice (some ⟨b, o, none⟩) 1 c]).run P w = .ok (.tuple #[]) (w.setCells b o [a0, a1]) := by
  have hzc : (Builtin.zeroCells z.cells 1).toList = [a0, a1] := by
    rw [hz]
    have e : Array.range 2 = #[0, 1] := by decide
    show (Array.map (fun i => (#[a0, a1] : Array Value)[i % 2]!) (Array.range 2)).toList = [a0, a1]
    rw [e]
    simp
  have hst := run_storeCells_cells (P := P) b o [a0, a1] 0 w (by simpa using hc) (by simpa using hf) (by intro v hv'; simp at hv'; rcases hv' with rfl | rfl <;> assumption)
  simp only [Nat.add_zero] at hst
  simp [Builtin.clear_, run_underlying ht, hv, hzc, hst]
theorem Tryz.cutOne (g n c k : Nat) (hk : k + 1 ≤ n) (hn : n ≤ c) :
    (∀ W, (Instr.sliceAt 26 (.slice (some ⟨g, 0, none⟩) n c) (some (.int .i64 (k : Int))) (some (.int .i64 ((k : Int) + 1))) (some (.int .i64 (n : Int)))).run Tryz.prog W = .ok (.slice (some ⟨g, k * 2, none⟩) 1 (n - k)) W) ∧
    (∀ W, (Instr.slice 26 (.slice (some ⟨g, 0, none⟩) n c) (some (.int .i64 (k : Int))) (some (.int .i64 ((k : Int) + 1))) (some (.int .i64 (n : Int)))).run Tryz.prog W = .ok (.slice (some ⟨g, k * 2, none⟩) 1 (n - k)) W) := by
  have ht : Tryz.prog.underlying 26 = some (.slice (Tryz.prog.elem 26)) := by kernel_rfl
  obtain ⟨ii, hi0, hi1, hi2, hi3⟩ := info_parts Tryz.infoFile
  have he : Tryz.prog.elem 26 = 48 := by kernel_rfl
  have hsz : ∀ W, (sizeOf 48).run Tryz.prog W = .ok ii.size W := fun W => by simp [sizeOf, typeInfo, hi0]
  have hne : ¬ n = k := by omega
  have h : ∀ W, (Instr.slice 26 (.slice (some ⟨g, 0, none⟩) n c) (some (.int .i64 (k : Int))) (some (.int .i64 ((k : Int) + 1))) (some (.int .i64 (n : Int)))).run Tryz.prog W = .ok (.slice (some ⟨g, k * 2, none⟩) 1 (n - k)) W := by
    intro W
    rw [run_slice_lhm (h0 := by omega) (h1 := by omega) (h2 := by omega) (h3 := by omega) (ht := ht), he, hsz, hi2]
    simp [Result.andThen, sliced, hne, Addr.add_lit]
    try omega
  exact ⟨fun W => by rw [run_sliceAt_slice (h := ht)]; exact h W, h⟩
theorem Tryz.lastOne (g m c : Nat) (hm : m + 1 ≤ c) :
    (∀ W, (Instr.sliceAt 26 (.slice (some ⟨g, 0, none⟩) m c) (some (.int .i64 (m : Int))) (some (.int .i64 ((m + 1 : Nat) : Int))) none).run Tryz.prog W = .ok (.slice (some ⟨g, m * 2, none⟩) 1 (c - m)) W) ∧
    (∀ W, (Instr.slice 26 (.slice (some ⟨g, 0, none⟩) m c) (some (.int .i64 (m : Int))) (some (.int .i64 ((m + 1 : Nat) : Int))) none).run Tryz.prog W = .ok (.slice (some ⟨g, m * 2, none⟩) 1 (c - m)) W) := by
  have ht : Tryz.prog.underlying 26 = some (.slice (Tryz.prog.elem 26)) := by kernel_rfl
  obtain ⟨ii, hi0, hi1, hi2, hi3⟩ := info_parts Tryz.infoFile
  have he : Tryz.prog.elem 26 = 48 := by kernel_rfl
  have hsz : ∀ W, (sizeOf 48).run Tryz.prog W = .ok ii.size W := fun W => by simp [sizeOf, typeInfo, hi0]
  have hne : ¬ c = m := by omega
  have h : ∀ W, (Instr.slice 26 (.slice (some ⟨g, 0, none⟩) m c) (some (.int .i64 (m : Int))) (some (.int .i64 ((m + 1 : Nat) : Int))) none).run Tryz.prog W = .ok (.slice (some ⟨g, m * 2, none⟩) 1 (c - m)) W := by
    intro W
    rw [run_slice_lh (h0 := by omega) (h1 := by omega) (h2 := by omega) (ht := ht), he, hsz, hi2]
    simp [Result.andThen, sliced, hne, Addr.add_lit]
    try omega
  exact ⟨fun W => by rw [run_sliceAt_slice (h := ht)]; exact h W, h⟩

set_option maxRecDepth 100000 in
set_option maxHeartbeats 2000000 in
theorem delete_own (A : Option Addr) (k q c B : Nat) (us : List Value) (w : World) (hrow : w.ownsRow B 48 2 (.slice A (k + q + 1) c) (k + q + 1) us) (hn : k + q ≤ 1000000) (hus : ∀ u ∈ us, u.oneCell' = true) :
    Calls Tryz.prog 29 #[.slice A (k + q + 1) c, .int .i64 (k : Int), .int .i64 ((k : Int) + 1)] w fun e w' => e = .returned (.slice A (k + q) c) ∧
      w'.ownsRow B 48 2 (.slice A (k + q) c) (k + q) (us.take (k * 2) ++ us.drop ((k + 1) * 2)) ∧ w.grownBy w' (Value.slice A (k + q + 1) c).ownBlock := by
  obtain ⟨ih, gi0, gi1, gi2, gi3⟩ := info_parts Tryz.infoFile
  have hlen := hrow.1
  rcases hrow.2 with ⟨e1, e2⟩ | ⟨g, cap, cur, e1, hg1, hg2, hnc, hcm, hcs, hcu⟩
  · omega
  · cases e1
    have hT : Tryz.prog.underlying 26 = some (.slice 48) := Tryz.underlying26
    have hgl : g < w.heap.size := (Array.getElem?_eq_some_iff.1 hg2).1
    obtain ⟨q1, q2⟩ := Tryz.cutOne g (k + q + 1) c k (by omega) hnc
    obtain ⟨q3, q4⟩ := Tryz.headFiles (some ⟨g, 0, none⟩) (k + q + 1) c k (by omega)
    obtain ⟨q5, q6⟩ := Tryz.lastOne g (k + q) c hnc
    have hcl : cur.toList.length = c * 2 := by simpa using hcs
    have hu : ∀ j, j < (k + q + 1) * 2 → cur.toList[j]? = us[j]? := fun j hj => by
      rw [← hcu, List.getElem?_take, if_pos hj]
    obtain ⟨news, hnews⟩ : ∃ news, news = us.drop ((k + 1) * 2) := ⟨_, rfl⟩
    have hnl : news.length = q * 2 := by rw [hnews, List.length_drop, hlen]; omega
    have hcell : ∀ j u, cur.toList[j]? = some u → w.drew.cell? ⟨g, j, none⟩ = some u := fun j u hj => by
      simp only [World.cell?]
      rw [show w.drew.heap = w.heap from rfl, hg2]
      simpa using hj
    have hfz : ∀ j, w.drew.frozen? ⟨g, j, none⟩ = false := fun j => by
      simp only [World.frozen?]
      rw [show w.drew.heap = w.heap from rfl, hg2]
      simp
    obtain ⟨ad, q7, q8, hsrc⟩ : ∃ ad : Addr, (∀ W, (Instr.sliceAt 26 (.slice (some ⟨g, 0, none⟩) (k + q + 1) c) (some (.int .i64 ((k : Int) + 1))) none none).run Tryz.prog W = .ok (.slice (some ad) q (c - (k + 1))) W) ∧
        (∀ W, (Instr.slice 26 (.slice (some ⟨g, 0, none⟩) (k + q + 1) c) (some (.int .i64 ((k : Int) + 1))) none none).run Tryz.prog W = .ok (.slice (some ad) q (c - (k + 1))) W) ∧ Hid (∀ j u, news[j]? = some u → w.drew.cell? (ad.add j) = some u) := by
      by_cases hkc : k + 1 < c
      · obtain ⟨q7, q8⟩ := Tryz.tailFiles1 g (k + q + 1) c k (by omega) hkc
        have e9 : k + q + 1 - (k + 1) = q := by omega
        rw [e9] at q7 q8
        refine ⟨⟨g, (k + 1) * 2, none⟩, q7, q8, Lib.hid fun j u hj => ?_⟩
        rw [Addr.add_lit]
        refine hcell _ u ?_
        rw [hnews, List.getElem?_drop] at hj
        rw [hu _ (by have := (List.getElem?_eq_some_iff.1 hj).1; omega)]
        exact hj
      · have hq0 : q = 0 := by omega
        have hck : c = k + 1 := by omega
        subst hq0 hck
        have ht : Tryz.prog.underlying 26 = some (.slice (Tryz.prog.elem 26)) := by kernel_rfl
        have he : Tryz.prog.elem 26 = 48 := by kernel_rfl
        have hsz : ∀ W, (sizeOf 48).run Tryz.prog W = .ok ih.size W := fun W => by simp [sizeOf, typeInfo, gi0]
        have h : ∀ W, (Instr.slice 26 (.slice (some ⟨g, 0, none⟩) (k + 0 + 1) (k + 1)) (some (.int .i64 ((k : Int) + 1))) none none).run Tryz.prog W = .ok (.slice (some ⟨g, 0, none⟩) 0 (k + 1 - (k + 1))) W := by
          intro W
          rw [run_slice_l (h0 := by omega) (h1 := by omega) (ht := ht), he, hsz, gi2]
          have e1 : ((k : Int) + 1).toNat = k + 1 := by omega
          simp [Result.andThen, sliced, e1]
        refine ⟨⟨g, 0, none⟩, fun W => by rw [run_sliceAt_slice (h := ht)]; exact h W, h, Lib.hid fun j u hj => ?_⟩
        have : news = [] := List.eq_nil_of_length_eq_zero (by omega)
        rw [this] at hj
        simp at hj
    have s2 := Lib.hid (show ∀ u ∈ news, u.oneCell' = true from fun u hu9 => hus u (List.mem_of_mem_drop (hnews ▸ hu9)))
    have s3 := Lib.hid (show ∀ t, t < news.length → (w.drew.cell? ⟨g, 0 + k * 2 + t, none⟩).isSome = true ∧ w.drew.frozen? ⟨g, 0 + k * 2 + t, none⟩ = false from fun t ht => by
      have h9 : k * 2 + t < cur.toList.length := by omega
      rw [Nat.zero_add]
      exact ⟨by rw [hcell _ _ (List.getElem?_eq_getElem h9)]; rfl, hfz _⟩)
    have hsN := Lib.hid hnl
    have hd2 : w.drew.heap[g]? = some (.cells cur.toList.toArray 48 (0, 0)) := by rw [show w.drew.heap = w.heap from rfl]; simpa using hg2
    obtain ⟨W1, hW1⟩ : ∃ W1 : World, W1 = w.drew.setCells g (0 + k * 2) news := ⟨_, rfl⟩
    have hh1 : W1.heap[g]? = some (.cells (cur.toList.take (0 + k * 2) ++ (news ++ cur.toList.drop (0 + k * 2 + news.length))).toArray 48 (0, 0)) := by
      rw [hW1]
      exact heap_setCells g _ news (0 + k * 2) w.drew cur.toList hd2 (by omega)
    have hg1' : w.grownBy W1 (some g) := by
      rw [hW1]
      exact grown_trans (⟨rfl, rfl, rfl, Nat.le_refl _, fun _ _ _ => rfl⟩ : w.grownBy w.drew (some g)) (grown_setCells g news _ w.drew)
    obtain ⟨C1, hC1⟩ : ∃ C1, C1 = cur.toList.take (0 + k * 2) ++ (news ++ cur.toList.drop (0 + k * 2 + news.length)) := ⟨_, rfl⟩
    rw [← hC1] at hh1
    have hC1l : C1.length = c * 2 := by rw [hC1]; simp only [List.length_append, List.length_take, List.length_drop]; omega
    have hcl2 : ∀ ty, (Builtin.clear_ #[26] ty #[.slice (some ⟨g, (k + q) * 2, none⟩) 1 (c - (k + q))]).run Tryz.prog W1 = .ok (.tuple #[]) (W1.setCells g ((k + q) * 2) [.string ⟨#[]⟩, .slice none 0 0]) := fun ty =>
      run_clear_one W1 26 48 ty (.agg #[.string ⟨#[]⟩, .slice none 0 0]) _ _ hT (fun W => by simp [zeroValue, typeInfo, gi0, gi1]) rfl rfl rfl g ((k + q) * 2) _ (fun j hj => by
        simp only [World.cell?, hh1]
        have : (k + q) * 2 + j < C1.length := by omega
        simp [List.getElem?_eq_getElem this]) (fun j hj => by simp [World.frozen?, hh1])
    obtain ⟨W2, hW2⟩ : ∃ W2 : World, W2 = W1.setCells g ((k + q) * 2) [.string ⟨#[]⟩, .slice none 0 0] := ⟨_, rfl⟩
    have hh2 : W2.heap[g]? = some (.cells (C1.take ((k + q) * 2) ++ ([Value.string ⟨#[]⟩, Value.slice none 0 0] ++ C1.drop ((k + q) * 2 + 2))).toArray 48 (0, 0)) := by
      rw [hW2]
      exact heap_setCells g _ [.string ⟨#[]⟩, .slice none 0 0] ((k + q) * 2) W1 C1 hh1 (by simp; omega)
    have hg2' : w.grownBy W2 (some g) := by rw [hW2]; exact grown_trans hg1' (grown_setCells g _ _ W1)
    have hfin : W2.ownsRow B 48 2 (.slice (some ⟨g, 0, none⟩) (k + q) c) (k + q) (us.take (k * 2) ++ us.drop ((k + 1) * 2)) := by
      refine ⟨by rw [List.length_append, List.length_take, ← hnews, hnl]; omega, .inr ⟨g, c, _, rfl, hg1, hh2, by omega, hcm, by simp only [List.size_toArray, List.length_append, List.length_take, List.length_drop, List.length_cons, List.length_nil]; omega, ?_⟩⟩
      rw [List.take_append_of_le_length (by rw [List.length_take]; omega), List.take_take, Nat.min_self, hC1, ← List.append_assoc, List.take_append_of_le_length (by rw [List.length_append, List.length_take]; omega)]
      rw [List.take_of_length_le (by rw [List.length_append, List.length_take]; omega), hnews, ← hcu, List.take_take, Nat.zero_add]
      congr 2
      omega
    have Hfin := Lib.hid hfin
    have Hgr := Lib.hid hg2'
    have HW2 := Lib.hid hW2
    have hW := Lib.hid hW1
    have hwk : IntKind.i64.wrap ((k : Int) + 1) = (k : Int) + 1 := by rw [IntKind.wrap_i64]; omega
    have hkk : ((k : Int) == (k : Int) + 1) = false := by rw [beq_eq_false_iff_ne]; omega
    have hkk2 : ¬ ((k : Int) = (k : Int) + 1) := by omega
    clear hcell hfz hu hcl hd2 hh1 hg1' hC1 hC1l hW2 hh2 hg2' hfin hW1 hcu hcs hg2 hnews hus hnl hlen hrow
    go_enter Tryz.func29, Tryz.ntmps29
    go_wp2_with fail
    go_region_law ((refine step_append_room rfl (.tmp 22) (.tmp 25) 26 rfl 48 ih 2 hT gi0 gi2 g 0 k c (by rfl) ad q (c - (k + 1)) news (by rfl) hsN.out hsrc.out s2.out (by omega) s3.out ?_; rw [← hW.out]))
    go_wp2
    rw [← HW2.out]
    go_ret
    exact ⟨rfl, Hfin.out, Hgr.out⟩
end Go.Proofs.YtmickenajhppoaaGreatDoor

/- The program's ChangesDo: what its first loop keeps. Printed by wip/mk_cdo.py. -/
namespace Go.Proofs.YtmickenajhppoaaGreatDoor
open Go.RowKit

def takenF (t : List PFile) (c : PChange) : PFile := if c.kind = 1 then ⟨c.path, c.text⟩ else ⟨c.path, oldAt t c⟩
/-- The texts of a row stand in world V in blocks between B and H, apart from the row's block. -/
structure Texts (V : World) (B H : Nat) (rb : Option Nat) (zs : List (PFile × Value)) (G : List Nat) : Prop where
  own : Owns V ((filesZ zs).flatMap cFiles) (cellsZ zs) G
  nodup : (rb.toList ++ G).Nodup
  bd : ∀ k ∈ rb.toList ++ G, B ≤ k ∧ k < H
/-- A text that was taken: out of the copied tree, or out of the changes. -/
def TK (V : World) (B H : Nat) (rb : Option Nat) (W : World) (lo hi : Nat) (z : PFile × Value) : Prop :=
  (∃ F, Own V (encText z.1.text) z.2 F ∧ ∀ k ∈ F, B ≤ k ∧ k < H ∧ rb ≠ some k) ∨ Rep W lo hi (encText z.1.text) z.2
/-- Between B and H only the row's block may have changed. -/
def Kept (V W : World) (B H : Nat) (rb : Option Nat) : Prop := ∀ k, B ≤ k → k < H → rb ≠ some k → W.heap[k]? = V.heap[k]?
theorem Kept.below {V W W' : World} {B H : Nat} {rb : Option Nat} (h : Kept V W B H rb) (hb : Below W.heap.size W W') (hh : H ≤ W.heap.size) : Kept V W' B H rb := fun k h1 h2 h3 => (hb.block k (by omega)).trans (h k h1 h2 h3)
theorem Kept.grown {V W W' : World} {B H : Nat} {rb row : Option Nat} (h : Kept V W B H rb) (hg : W.grownBy W' row) (hh : H ≤ W.heap.size) (hr : ∀ g, row = some g → rb = some g ∨ H ≤ g) : Kept V W' B H rb := fun k h1 h2 h3 =>
  (hg.block k (by omega) (fun e => by rcases hr k e.symm with h9 | h9; exact h3 h9; omega)).trans (h k h1 h2 h3)
theorem Texts.same {V W : World} {B H : Nat} {rb : Option Nat} {zs : List (PFile × Value)} {G : List Nat} (h : Texts V B H rb zs G) (hk : Kept V W B H rb) : Owns W ((filesZ zs).flatMap cFiles) (cellsZ zs) G :=
  Owns.same _ _ _ h.own (fun k hm => hk k (h.bd k (List.mem_append_right _ hm)).1 (h.bd k (List.mem_append_right _ hm)).2 (fun e => (List.nodup_append.1 h.nodup).2.2 k (by rw [e]; simp) k hm rfl))
theorem TK.rep {V W W0 : World} {B H lo hi : Nat} {rb : Option Nat} {z : PFile × Value} (h : TK V B H rb W0 lo hi z) (hk : Kept V W B H rb) (hb : Below B W0 W) (hhi : hi ≤ B) (hH : H ≤ W.heap.size) (hB : B ≤ W.heap.size) : Rep W 0 W.heap.size (encText z.1.text) z.2 := by
  rcases h with ⟨F, ho, hf⟩ | h
  · exact Own.rep _ _ _ (Own.same _ _ _ ho (fun k hm => hk k (hf k hm).1 (hf k hm).2.1 (hf k hm).2.2)) (fun k hm => ⟨Nat.zero_le _, by have := (hf k hm).2.1; omega⟩)
  · exact (h.keep hb hhi).mono (Nat.zero_le _) (by omega)
theorem Owns.splitC {w : World} : ∀ {ps qs : List PV} {us : List Value} {F : List Nat}, Owns w (ps ++ qs) us F → ∃ us1 us2 F1 F2, us = us1 ++ us2 ∧ F = F1 ++ F2 ∧ Owns w ps us1 F1 ∧ Owns w qs us2 F2
  | [], _, us, F, h => ⟨[], us, [], F, rfl, rfl, ⟨rfl, rfl⟩, h⟩
  | p :: ps, qs, us, F, h => by
    obtain ⟨u, us', F1, F2, hu, hF, h1, h2⟩ := h
    obtain ⟨us1, us2, G1, G2, e1, e2, h3, h4⟩ := Owns.splitC h2
    subst hu hF e1 e2
    exact ⟨u :: us1, us2, F1 ++ G1, G2, rfl, (List.append_assoc _ _ _).symm, ⟨u, us1, F1, G1, rfl, rfl, h1, h3⟩, h4⟩
theorem Owns.two {w : World} {p q : PV} {us : List Value} {F : List Nat} (h : Owns w [p, q] us F) : ∃ u v F1 F2, us = [u, v] ∧ F = F1 ++ F2 ∧ Own w p u F1 ∧ Own w q v F2 := by
  obtain ⟨u, us', F1, F2, hu, hF, h1, h2⟩ := h
  obtain ⟨v, us2, F3, F4, hu2, hF2, h3, h4⟩ := h2
  obtain ⟨rfl, rfl⟩ := h4
  subst hu hu2 hF hF2
  exact ⟨u, v, F1, F3, rfl, by simp, h1, h3⟩
/-- What a fresh tree's row holds, as pairs. -/
theorem owns_zs {w : World} : ∀ {xs : List PFile} {us : List Value} {G : List Nat}, Owns w (xs.flatMap cFiles) us G → ∃ zs, filesZ zs = xs ∧ us = cellsZ zs
  | [], us, G, h => ⟨[], rfl, h.1⟩
  | x :: xs, us, G, h => by
    rw [List.flatMap_cons] at h
    obtain ⟨us1, us2, F1, F2, e1, e2, h1, h2⟩ := Owns.splitC h
    obtain ⟨u, v, F3, F4, e3, e4, h3, h4⟩ := Owns.two h1
    obtain ⟨zs, hz, hu⟩ := owns_zs h2
    have hs : u = .string ⟨x.path.toArray⟩ := h3.1
    subst e1 e3 hu hs
    exact ⟨(x, v) :: zs, by rw [← hz]; rfl, rfl⟩
theorem cells_split (a b : List (PFile × Value)) (z : PFile × Value) : cellsZ (a ++ z :: b) = cellsZ a ++ ([.string ⟨z.1.path.toArray⟩, z.2] ++ cellsZ b) := by
  rw [cellsZ_append]
  rfl
/-- One of them taken out. -/
theorem Texts.cut {V : World} {B H : Nat} {rb : Option Nat} {zs : List (PFile × Value)} {G : List Nat} (h : Texts V B H rb zs G) {k : Nat} {z : PFile × Value} (hz : zs[k]? = some z) :
    (∃ G', Texts V B H rb (zs.take k ++ zs.drop (k + 1)) G') ∧ (∃ F, Own V (encText z.1.text) z.2 F ∧ ∀ k ∈ F, B ≤ k ∧ k < H ∧ rb ≠ some k) ∧ (cellsZ zs).take (k * 2) ++ (cellsZ zs).drop ((k + 1) * 2) = cellsZ (zs.take k ++ zs.drop (k + 1)) := by
  obtain ⟨hk, hz'⟩ := List.getElem?_eq_some_iff.1 hz
  have e : zs = zs.take k ++ z :: zs.drop (k + 1) := by
    rw [← hz', ← List.drop_eq_getElem_cons hk, List.take_append_drop]
  obtain ⟨a, ha⟩ : ∃ a, a = zs.take k := ⟨_, rfl⟩
  obtain ⟨b, hb⟩ : ∃ b, b = zs.drop (k + 1) := ⟨_, rfl⟩
  rw [← ha, ← hb] at e ⊢
  have hal : a.length = k := by rw [ha, List.length_take]; omega
  have ho := h.own
  have hcz : cellsZ zs = cellsZ a ++ ([.string ⟨z.1.path.toArray⟩, z.2] ++ cellsZ b) := by rw [e]; exact cells_split a b z
  have hfz : (filesZ zs).flatMap cFiles = (filesZ a).flatMap cFiles ++ (cFiles z.1 ++ (filesZ b).flatMap cFiles) := by rw [e, filesZ_append, List.flatMap_append]; rfl
  rw [hfz] at ho
  obtain ⟨us1, us2, F1, F2, e1, e2, h1, h2⟩ := Owns.splitC ho
  obtain ⟨us3, us4, F3, F4, e3, e4, h3, h4⟩ := Owns.splitC h2
  obtain ⟨u, v, F5, F6, e5, e6, h5, h6⟩ := Owns.two h3
  subst e2 e3 e4 e5 e6
  have hl1 : us1.length = (cellsZ a).length := by rw [h1.length, cellsZ_len, length_flatMap_z cFiles_len, filesZ_len]
  rw [hcz] at e1
  obtain ⟨e7, e8⟩ := List.append_inj e1 hl1.symm
  obtain ⟨e9, e10⟩ := List.append_inj e8 (by simp)
  subst e7 e10
  have hv : v = z.2 := by
    have := e9.symm
    simp at this
    exact this.2
  subst hv
  obtain ⟨n1, n2, n3⟩ := List.nodup_append.1 h.nodup
  obtain ⟨m1, m2, m3⟩ := List.nodup_append.1 n2
  obtain ⟨l1, l2, l3⟩ := List.nodup_append.1 m2
  have hal2 : (cellsZ a).length = k * 2 := by rw [cellsZ_len, hal]
  refine ⟨⟨F1 ++ F4, by rw [filesZ_append, List.flatMap_append, cellsZ_append]; exact h1.append h4, List.nodup_append.2 ⟨n1, List.nodup_append.2 ⟨m1, l2, fun p hp q hq => m3 p hp q (List.mem_append_right _ hq)⟩, fun p hp q hq => n3 p hp q ?_⟩, fun p hp => h.bd p ?_⟩, ⟨F6, h6, fun p hp => ?_⟩, ?_⟩
  · rcases List.mem_append.1 hq with m | m
    · exact List.mem_append_left _ m
    · exact List.mem_append_right _ (List.mem_append_right _ m)
  · rcases List.mem_append.1 hp with m | m
    · exact List.mem_append_left _ m
    · rcases List.mem_append.1 m with m | m
      · exact List.mem_append_right _ (List.mem_append_left _ m)
      · exact List.mem_append_right _ (List.mem_append_right _ (List.mem_append_right _ m))
  · have hm : p ∈ F1 ++ ((F5 ++ F6) ++ F4) := List.mem_append_right _ (List.mem_append_left _ (List.mem_append_right _ hp))
    have := h.bd p (List.mem_append_right _ hm)
    exact ⟨this.1, this.2, fun e => n3 p (by rw [e]; simp) p hm rfl⟩
  · rw [hcz, List.take_left' hal2, cellsZ_append]
    congr 1
    rw [show (k + 1) * 2 = (cellsZ a).length + 2 by rw [hal2]; omega, ← List.drop_drop, List.drop_left]
    rfl
theorem Texts.fresh {V W : World} {B H n c : Nat} {A : Option Addr} {zs : List (PFile × Value)} {G : List Nat} {e : Nat} (h : Texts V B H (Value.slice A n c).ownBlock zs G) (hk : Kept V W B H (Value.slice A n c).ownBlock) (hrow : W.ownsRow B e 2 (.slice A n c) n (cellsZ zs)) (hH : H ≤ W.heap.size) : Fresh W B W.heap.size (.sl e 2 ((filesZ zs).flatMap cFiles)) (.slice A n c) := by
  refine ⟨(Value.slice A n c).ownBlock.toList ++ G, ⟨n, cellsZ zs, G, ⟨hrow.1, ?_⟩, rfl, h.same hk⟩, h.nodup, fun k hm => ⟨(h.bd k hm).1, by have := (h.bd k hm).2; omega⟩⟩
  rcases hrow.2 with h2 | ⟨g, cap, cur, r⟩
  · exact .inl h2
  · exact .inr ⟨g, cap, cur, r.1, Nat.zero_le _, r.2.2⟩
end Go.Proofs.YtmickenajhppoaaGreatDoor
