import Derived.Test.YtmickenajhppoaaGreatDoorCopyZ
import Derived.Test.YtmickenajhppoaaGreatDoorZ28
import Derived.Lib.Overlaps
import Derived.Deep.RegionHeld3
import Derived.Deep.Cut
/- Walk: slices.Insert of one file into a row of the call's own. -/
namespace Go.Proofs.YtmickenajhppoaaGreatDoor
open Go.RowKit

theorem splice_up {α : Type} (L vs ds : List α) (a : Nat) (h : a + vs.length + ds.length ≤ L.length) : splice (splice L a vs) (a + vs.length) ds = L.take a ++ (vs ++ (ds ++ L.drop (a + vs.length + ds.length))) := by
  unfold splice
  have e1 : (L.take a ++ (vs ++ L.drop (a + vs.length))).take (a + vs.length) = L.take a ++ vs := by
    rw [← List.append_assoc, List.take_append_of_le_length (by simp; omega)]
    exact List.take_of_length_le (by simp; omega)
  have e2 : (L.take a ++ (vs ++ L.drop (a + vs.length))).drop (a + vs.length + ds.length) = L.drop (a + vs.length + ds.length) := by
    rw [← List.append_assoc, List.drop_append, List.drop_eq_nil_of_le (by simp; omega), List.nil_append, List.drop_drop]
    congr 1
    simp
    omega
  rw [e1, e2]
  simp
theorem splice_down {α : Type} (L vs ds : List α) (a : Nat) (h : a + vs.length + ds.length ≤ L.length) : splice (splice L (a + vs.length) ds) a vs = L.take a ++ (vs ++ (ds ++ L.drop (a + vs.length + ds.length))) := by
  unfold splice
  have e1 : (L.take (a + vs.length) ++ (ds ++ L.drop (a + vs.length + ds.length))).take a = L.take a := by
    rw [List.take_append_of_le_length (by simp; omega), List.take_take]
    congr 1
    omega
  have e2 : (L.take (a + vs.length) ++ (ds ++ L.drop (a + vs.length + ds.length))).drop (a + vs.length) = ds ++ L.drop (a + vs.length + ds.length) := by
    rw [List.drop_append, List.drop_eq_nil_of_le (by simp; omega), List.nil_append]
    rw [show a + vs.length - (L.take (a + vs.length)).length = 0 by simp; omega]
    rfl
  rw [e1, e2]

theorem Tryz.tailFilesAny (A : Option Addr) (n c i : Nat) (hij : i ≤ n) : ∃ A' : Option Addr,
    (∀ W, (Instr.sliceAt 26 (.slice A n c) (some (.int .i64 i)) none none).run Tryz.prog W = .ok (.slice A' (n - i) (c - i)) W) ∧
    (∀ W, (Instr.slice 26 (.slice A n c) (some (.int .i64 i)) none none).run Tryz.prog W = .ok (.slice A' (n - i) (c - i)) W) := by
  have ht : Tryz.prog.underlying 26 = some (.slice (Tryz.prog.elem 26)) := by kernel_rfl
  obtain ⟨ii, hi0, hi1, hi2, hi3⟩ := info_parts Tryz.infoFile
  have he : Tryz.prog.elem 26 = 48 := by kernel_rfl
  have hsz : ∀ W, (sizeOf 48).run Tryz.prog W = .ok ii.size W := fun W => by simp [sizeOf, typeInfo, hi0]
  have h : ∀ W, (Instr.slice 26 (.slice A n c) (some (.int .i64 i)) none none).run Tryz.prog W = .ok (.slice (if c = i then A else A.map fun a => a.add (i * 2)) (n - i) (c - i)) W := by
    intro W
    rw [run_slice_l (h0 := by omega) (h1 := by omega) (ht := ht), he, hsz, hi2]
    simp [Result.andThen, sliced]
  exact ⟨_, fun W => by rw [run_sliceAt_slice (h := ht)]; exact h W, h⟩
theorem Tryz.tailFiles (g n c i : Nat) (hij : i ≤ n) (hic : i < c) :
    (∀ W, (Instr.sliceAt 26 (.slice (some ⟨g, 0, none⟩) n c) (some (.int .i64 i)) none none).run Tryz.prog W = .ok (.slice (some ⟨g, i * 2, none⟩) (n - i) (c - i)) W) ∧
    (∀ W, (Instr.slice 26 (.slice (some ⟨g, 0, none⟩) n c) (some (.int .i64 i)) none none).run Tryz.prog W = .ok (.slice (some ⟨g, i * 2, none⟩) (n - i) (c - i)) W) := by
  have ht : Tryz.prog.underlying 26 = some (.slice (Tryz.prog.elem 26)) := by kernel_rfl
  obtain ⟨ii, hi0, hi1, hi2, hi3⟩ := info_parts Tryz.infoFile
  have he : Tryz.prog.elem 26 = 48 := by kernel_rfl
  have hsz : ∀ W, (sizeOf 48).run Tryz.prog W = .ok ii.size W := fun W => by simp [sizeOf, typeInfo, hi0]
  have hne : ¬ c = i := by omega
  have h : ∀ W, (Instr.slice 26 (.slice (some ⟨g, 0, none⟩) n c) (some (.int .i64 i)) none none).run Tryz.prog W = .ok (.slice (some ⟨g, i * 2, none⟩) (n - i) (c - i)) W := by
    intro W
    rw [run_slice_l (h0 := by omega) (h1 := by omega) (ht := ht), he, hsz, hi2]
    simp [Result.andThen, sliced, hne, Addr.add_lit]
  exact ⟨fun W => by rw [run_sliceAt_slice (h := ht)]; exact h W, h⟩
theorem Tryz.tailFiles1 (g n c i : Nat) (hij : i + 1 ≤ n) (hic : i + 1 < c) :
    (∀ W, (Instr.sliceAt 26 (.slice (some ⟨g, 0, none⟩) n c) (some (.int .i64 ((i : Int) + 1))) none none).run Tryz.prog W = .ok (.slice (some ⟨g, (i + 1) * 2, none⟩) (n - (i + 1)) (c - (i + 1))) W) ∧
    (∀ W, (Instr.slice 26 (.slice (some ⟨g, 0, none⟩) n c) (some (.int .i64 ((i : Int) + 1))) none none).run Tryz.prog W = .ok (.slice (some ⟨g, (i + 1) * 2, none⟩) (n - (i + 1)) (c - (i + 1))) W) := Tryz.tailFiles g n c (i + 1) hij hic
theorem Tryz.headFiles1 (A : Option Addr) (n c i : Nat) (hij : i + 1 ≤ c) :
    (∀ W, (Instr.sliceAt 26 (.slice A n c) none (some (.int .i64 ((i : Int) + 1))) none).run Tryz.prog W = .ok (.slice A (i + 1) c) W) ∧
    (∀ W, (Instr.slice 26 (.slice A n c) none (some (.int .i64 ((i : Int) + 1))) none).run Tryz.prog W = .ok (.slice A (i + 1) c) W) := Tryz.headFiles A n c (i + 1) hij

set_option maxRecDepth 100000 in
set_option maxHeartbeats 800000 in
theorem insert_own (A : Option Addr) (n c i vb B : Nat) (us : List Value) (u0 u1 : Value) (w : World) (hrow : w.ownsRow B 48 2 (.slice A n c) n us) (hi : i ≤ n) (hn : n ≤ 1000000)
    (hv : w.heap[vb]? = some (.cells #[u0, u1] 48 (0, 0))) (hvb : (Value.slice A n c).ownBlock ≠ some vb) (hB : B ≤ w.heap.size) (hu0 : u0.oneCell' = true) (hu1 : u1.oneCell' = true) (hus : ∀ u ∈ us, u.oneCell' = true) :
    Calls Tryz.prog 61 #[.slice A n c, .int .i64 i, .slice (some ⟨vb, 0, none⟩) 1 1] w fun e w' => ∃ A' c', e = .returned (.slice A' (n + 1) c') ∧
      w'.ownsRow B 48 2 (.slice A' (n + 1) c') (n + 1) (us.take (i * 2) ++ ([u0, u1] ++ us.drop (i * 2))) ∧ w.grownBy w' (Value.slice A n c).ownBlock ∧
      ((Value.slice A' (n + 1) c').ownBlock = (Value.slice A n c).ownBlock ∨ ∃ g, (Value.slice A' (n + 1) c').ownBlock = some g ∧ w.heap.size ≤ g) := by
  obtain ⟨ih, gi0, gi1, gi2, gi3⟩ := info_parts Tryz.infoFile
  have hlen := hrow.1
  have hSv : Src w 2 (some ⟨vb, 0, none⟩) 1 [u0, u1] := ⟨rfl, fun _ => ⟨vb, 0, rfl, fun j u hj => by
    simp only [World.cell?, Nat.zero_add]
    rw [hv]
    simpa using hj⟩⟩
  have hone : ∀ u ∈ [u0, u1], u.oneCell' = true := fun u hu => by
    simp only [List.mem_cons, List.not_mem_nil, or_false] at hu
    rcases hu with rfl | rfl
    · exact hu0
    · exact hu1
  by_cases hin : i = n
  · subst hin
    obtain ⟨A1, q1, q2⟩ := Tryz.tailFilesAny A i c i (Nat.le_refl _)
    go_enter Tryz.func61, Tryz.ntmps61
    go_wp2_with (at_builtin; refine wpList_append_src _ rfl (.tmp 23) (.tmp 24) _ rfl B 48 ih _ 2 40 Tryz.underlying26 gi0 gi1 gi2 gi3 rfl (by omega) _ i us rfl hrow _ 1 1 [u0, u1] rfl hSv ?e2 ?e3 ?e4 ?e5 ?_)
    case e2 => exact hone
    case e3 => unfold maxLen; omega
    case e4 => omega
    case e5 => omega
    intro A' c' w' hown' hg' hat'
    go_wp2
    go_ret
    have e1 : us.take (i * 2) = us := List.take_of_length_le (by omega)
    have e2 : us.drop (i * 2) = [] := List.drop_of_length_le (by omega)
    refine ⟨_, _, rfl, ?_, hg', hat'.imp id fun h => ⟨_, h, Nat.le_refl _⟩⟩
    rw [e1, e2]
    simpa using hown'
  · have hrow2 := hrow.2
    rcases hrow2 with ⟨e1, e2⟩ | ⟨g, cap, cur, e1, hg1, hg2, hnc, hcm, hcs, hcu⟩
    · omega
    · cases e1
      have hT : Tryz.prog.underlying 26 = some (.slice 48) := Tryz.underlying26
      have hsz : (Tryz.prog.info? 48).map (·.size) = some 2 := by rw [gi0]; simp [gi2]
      have hwn : IntKind.i64.wrap ((n : Int) + 1) = (n : Int) + 1 := by rw [IntKind.wrap_i64]; omega
      have hwi : IntKind.i64.wrap ((i : Int) + 1) = (i : Int) + 1 := by rw [IntKind.wrap_i64]; omega
      have hni : ¬ ((i : Int) = (n : Int)) := by omega
      have hgl : g < w.heap.size := (Array.getElem?_eq_some_iff.1 hg2).1
      have hvl : vb < w.heap.size := (Array.getElem?_eq_some_iff.1 hv).1
      have hgv : g ≠ vb := fun e => hvb (by rw [e]; rfl)
      have hds : (us.drop (i * 2)).length = (n - i) * 2 := by rw [List.length_drop, hlen, Nat.sub_mul]
      obtain ⟨q1, q2⟩ := Tryz.tailFiles g n c i hi (by omega)
      by_cases hroom : n + 1 ≤ c
      · obtain ⟨q3, q4⟩ := Tryz.headFiles1 (some ⟨g, 0, none⟩) n c n hroom
        obtain ⟨q5, q6⟩ := Tryz.tailFiles1 g (n + 1) c i (by omega) (by omega)
        obtain ⟨q7, q8⟩ := Tryz.tailFiles g (n + 1) c i (by omega) (by omega)
        have hroom' : ¬ ((c : Int) < (n : Int) + 1) := by omega
        have hv1 : ∀ j u, [u0, u1][j]? = some u → w.drew.cell? ((⟨vb, 0, none⟩ : Addr).add j) = some u := by
          intro j u hj
          rw [Addr.add_lit, Nat.zero_add]
          simp only [World.cell?]
          rw [show w.drew.heap = w.heap from rfl, hv]
          simpa using hj
        have hsA : w.shape? vb = some (48, 2) := by simp [World.shape?, hv]
        have hsB : w.shape? g = some (48, cur.size) := by simp [World.shape?, hg2]
        have hfA : w.frozen? ⟨vb, 0, none⟩ = false := by simp [World.frozen?, hv]
        have hfE : w.frozen? { block := vb, off := 2 } = false := by simp [World.frozen?, hv]
        have hzz : ∀ W, (Go.sizeOf 48).run Tryz.prog W = .ok 2 W := fun W => by simp [sizeOf, typeInfo, gi0, gi2]
        have hov : ∀ lb cb, (callFunc 77 #[.slice (some ⟨vb, 0, none⟩) 1 1, .slice (some ⟨g, (i + 1) * 2, none⟩) lb cb]).run Tryz.prog w = .ok (.value (.bool false)) w := fun lb cb => by
          rw [run_callFunc_extern Tryz.func77 (by kernel_rfl) (by kernel_rfl) (by kernel_rfl) (e := Extern.SlicesOverlaps.overlaps #[26, 26] #[4]) (by kernel_rfl),
            Lib.run_overlaps_apart w 26 4 48 hT 2 hzz ⟨vb, 0, none⟩ ⟨g, (i + 1) * 2, none⟩ 1 1 lb cb hgv.symm _ _ _ _ hsA hsB (by omega) hfA hfE]
          rfl
        have hmin1 : Nat.min 1 (n + 1 - i) = 1 := Nat.min_eq_left (by omega)
        have hmin2 : Nat.min (n + 1 - i) (n - i) = n - i := Nat.min_eq_right (by omega)
        have hsrc2 : ∀ j u, (us.drop (i * 2))[j]? = some u → w.drew.cell? ((⟨g, i * 2, none⟩ : Addr).add j) = some u := by
          intro j u hj
          rw [Addr.add_lit]
          simp only [World.cell?]
          rw [show w.drew.heap = w.heap from rfl, hg2]
          rw [List.getElem?_drop, ← hcu, List.getElem?_take] at hj
          split at hj
          · simpa using hj
          · cases hj
        have hone2 : ∀ u ∈ us.drop (i * 2), u.oneCell' = true := fun u hu => hus u (List.mem_of_mem_drop hu)
        have hg2d : w.drew.heap[g]? = some (.cells cur.toList.toArray 48 (0, 0)) := by show w.heap[g]? = _; simpa using hg2
        have hsp : (splice cur.toList ((i + 1) * 2) (us.drop (i * 2))).length = c * 2 := by rw [length_splice _ _ _ (by rw [hds]; simp; omega)]; simpa using hcs
        have hcut : cur.toList.take (i * 2) = us.take (i * 2) := by rw [← hcu, List.take_take, Nat.min_eq_left (by omega)]
        have Hcut := Lib.hid hcut
        have hbase : B ≤ g := hg1
        clear hcut hrow hSv
        go_enter Tryz.func61, Tryz.ntmps61
        go_wp2_with (simp only [hov])
        go_region_held3 (fun _ => True) (trivial) ((refine step_copy_z (by rfl) (.tmp 73) (.tmp 76) 26 26 (by rfl) 48 hT 2 hsz g ((i + 1) * 2) (n - i) (c - (i + 1)) ⟨g, i * 2, none⟩ (n + 1 - i) (c - i) (by rfl) (by rfl) cur.toList 48 hg2d (us.drop (i * 2)) (by rw [hmin2, hds]) hsrc2 (by rw [hds]; simp; omega) hone2 ?_; intro w2 hp2))
        all_goals
          have hv2 : ∀ j u, [u0, u1][j]? = some u → w2.cell? ((⟨vb, 0, none⟩ : Addr).add j) = some u := fun j u hj => by
            rw [← hv1 j u hj]
            refine World.cell?_of_block (hp2.2.1.block _ ?_ ?_)
            · simp [Addr.add_lit]; exact hvl
            · simp [Addr.add_lit]; omega
          go_wp2_with (refine wpList_copy_z rfl (.tmp 80) (.tmp 81) 26 26 rfl 48 hT 2 hsz g (i * 2) (n + 1 - i) (c - i) ⟨vb, 0, none⟩ 1 1 rfl rfl _ 48 hp2.1 [u0, u1] (by rw [hmin1]; rfl) hv2 (by rw [hsp]; simp; omega) hone ?_)
          intro w3 hp3
          go_wp2
          go_ret
          refine ⟨_, _, rfl, ⟨by simp [hlen]; omega, .inr ⟨g, c, _, rfl, hbase, hp3.1, by omega, hcm, ?_, ?_⟩⟩, ?_, .inl rfl⟩
          · simp only [List.size_toArray]
            rw [length_splice _ _ _ (by rw [hsp]; simp; omega), hsp]
          · have e := splice_down cur.toList [u0, u1] (us.drop (i * 2)) (i * 2) (by rw [hds]; simp; omega)
            rw [show i * 2 + [u0, u1].length = (i + 1) * 2 by simp; omega] at e
            rw [e, Hcut.out]
            rw [← List.append_assoc, ← List.append_assoc]
            rw [List.take_append_of_le_length (by simp [hlen]; omega)]
            rw [List.take_of_length_le (by simp [hlen]; omega)]
            simp
          · refine ⟨hp3.2.1.os.trans hp2.2.1.os, hp3.2.1.tape.trans hp2.2.1.tape, hp3.2.1.output.trans hp2.2.1.output, ?_, fun k hk hne => ?_⟩
            · have := hp3.2.1.size; have := hp2.2.1.size; simp at *; omega
            · exact (hp3.2.1.block k (by have := hp2.2.2; simp at *; omega) hne).trans (hp2.2.1.block k hk hne)
      · have hroom' : (c : Int) < (n : Int) + 1 := by omega
        have hk : IntKind.i64.wrap ((n : Int) + 1 - (i : Int)) = ((n + 1 - i : Nat) : Int) := by rw [IntKind.wrap_i64]; omega
        obtain ⟨q3, q4⟩ := Tryz.headFiles (some ⟨g, 0, none⟩) n c i (by omega)
        obtain ⟨W1, R, G, hrz, hR1, hR2, hR3, hG1, hG2, hG3, hG4⟩ := run_append_make (P := Tryz.prog) w 26 3 48 ih _ 2 Tryz.underlying26 Tryz.underlying3 gi0 gi1 gi2 rfl (by omega) g i c (n + 1 - i) cur _ _ hg2 (by omega) (by omega) (by omega) (by rw [gi3]; omega) (by omega)
        rw [show i + (n + 1 - i) = n + 1 by omega] at hrz hG1
        obtain ⟨q5, q6⟩ := Tryz.tailFiles w.heap.size (n + 1) G i (by omega) (by omega)
        obtain ⟨q7, q8⟩ := Tryz.tailFiles1 w.heap.size (n + 1) G i (by omega) (by omega)
        have hR4 : W1.grownBy W1 none := ⟨rfl, rfl, rfl, Nat.le_refl _, fun _ _ _ => rfl⟩
        have hv1 : W1.heap[vb]? = some (.cells #[u0, u1] 48 (0, 0)) := (hG3.block vb hvl (by simp)).trans hv
        have hmin1 : Nat.min 1 (n + 1 - i) = 1 := Nat.min_eq_left (by omega)
        have hmin2 : Nat.min (n - i) (n - i) = n - i := Nat.min_self _
        have hRl : (n + 1) * 2 ≤ R.length := by rw [hR2]; exact Nat.mul_le_mul_right _ hG1
        have hcut : cur.toList.take (i * 2) = us.take (i * 2) := by rw [← hcu, List.take_take, Nat.min_eq_left (by omega)]
        have Hcut := Lib.hid (hR3.trans hcut)
        have hsrc1 : ∀ j u, [u0, u1][j]? = some u → W1.cell? ((⟨vb, 0, none⟩ : Addr).add j) = some u := by
          intro j u hj
          rw [Addr.add_lit, Nat.zero_add]
          simp only [World.cell?]
          rw [hv1]
          simpa using hj
        have hg3 : w.heap[g]? = W1.heap[g]? := (hG3.block g hgl (by simp)).symm
        have hone2 : ∀ u ∈ us.drop (i * 2), u.oneCell' = true := fun u hu => hus u (List.mem_of_mem_drop hu)
        clear hR4 hcut hR3 hrow hSv
        go_enter Tryz.func61, Tryz.ntmps61
        go_upto_region 10 with (at_builtin; refine Lib.wpList_append_run _ rfl (.tmp 34) (.tmp 39) _ _ rfl _ _ rfl rfl _ _ (hrz _) ?_)
        go_wp2_with (refine wpList_copy_z rfl (.tmp 43) (.tmp 44) 26 26 rfl 48 hT 2 hsz w.heap.size (i * 2) (n + 1 - i) (G - i) ⟨vb, 0, none⟩ 1 1 rfl rfl R 48 hR1 [u0, u1] (by rw [hmin1]; rfl) hsrc1 (by simp; omega) hone ?_)
        intro w2 hp2
        have hsrc2 : ∀ j u, (us.drop (i * 2))[j]? = some u → w2.cell? ((⟨g, i * 2, none⟩ : Addr).add j) = some u := by
          intro j u hj
          rw [Addr.add_lit]
          simp only [World.cell?]
          rw [hp2.2.1.block g (by omega) (by simp; omega), ← hg3, hg2]
          rw [List.getElem?_drop, ← hcu, List.getElem?_take] at hj
          split at hj
          · simpa using hj
          · cases hj
        have hsp : (splice R (i * 2) [u0, u1]).length = R.length := length_splice _ _ _ (by simp; omega)
        go_wp2
        go_region_held3 (fun _ => True) (trivial) ((refine step_copy_z (by rfl) (.tmp 50) (.tmp 53) 26 26 (by rfl) 48 hT 2 hsz w.heap.size ((i + 1) * 2) (n - i) (G - (i + 1)) ⟨g, i * 2, none⟩ (n - i) (c - i) (by rfl) (by rfl) (splice R (i * 2) [u0, u1]) 48 hp2.1 (us.drop (i * 2)) (by rw [hmin2, hds]) hsrc2 (by rw [hsp, hds]; omega) hone2 ?_; intro w3 hp3))
        all_goals
          go_wp2
          go_ret
          refine ⟨_, _, rfl, ⟨by simp [hlen]; omega, .inr ⟨w.heap.size, G, _, rfl, hB, hp3.1, hG1, hG2, ?_, ?_⟩⟩, ?_, .inr ⟨_, rfl, Nat.le_refl _⟩⟩
          · simp only [List.size_toArray]
            rw [length_splice _ _ _ (by rw [hsp, hds]; omega), hsp, hR2]
          · have e := splice_up R [u0, u1] (us.drop (i * 2)) (i * 2) (by rw [hds]; simp; omega)
            rw [show i * 2 + [u0, u1].length = (i + 1) * 2 by simp; omega] at e
            rw [e, Hcut.out]
            rw [← List.append_assoc, ← List.append_assoc]
            rw [List.take_append_of_le_length (by simp [hlen]; omega)]
            rw [List.take_of_length_le (by simp [hlen]; omega)]
            simp
          · refine ⟨hp3.2.1.os.trans (hp2.2.1.os.trans hG3.os), hp3.2.1.tape.trans (hp2.2.1.tape.trans hG3.tape), hp3.2.1.output.trans (hp2.2.1.output.trans hG3.output), ?_, fun k hk hne => ?_⟩
            · have := hp3.2.1.size; have := hp2.2.1.size; have := hG3.size; simp at *; omega
            · exact (hp3.2.1.block k (by have := hp2.2.2; simp; omega) (by simp; omega)).trans ((hp2.2.1.block k (by omega) (by simp; omega)).trans (hG3.block k hk (by simp)))
end Go.Proofs.YtmickenajhppoaaGreatDoor
