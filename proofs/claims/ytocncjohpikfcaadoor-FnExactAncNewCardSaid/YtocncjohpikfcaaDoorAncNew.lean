/- Walks: since (with one other), AncNew. -/
import Derived.Test.YtocncjohpikfcaaDoorAncAll
import Derived.Test.YtocncjohpikfcaaDoorOnly
import Derived.Test.YtocncjohpikfcaaDoorMarkPlain
namespace Go.Proofs.YtocncjohpikfcaaDoor
open Go.RowKit

def clearPs (m : List Bool) (ps : List Int) : List Bool := ps.foldl (fun m p => m.set p.toNat false) m
theorem clearPs_snoc (m : List Bool) (ps : List Int) (p : Int) : clearPs m (ps ++ [p]) = (clearPs m ps).set p.toNat false := by unfold clearPs; rw [List.foldl_append]; rfl
theorem clearPs_len (ps : List Int) : ∀ m : List Bool, (clearPs m ps).length = m.length := by
  unfold clearPs
  induction ps with
  | nil => intro m; rfl
  | cons p ps ih => intro m; rw [List.foldl_cons, ih]; simp
theorem clearPs_getD (i : Nat) : ∀ (ps : List Int) (m : List Bool), (∀ p ∈ ps, 0 ≤ p) → (clearPs m ps).getD i false = (m.getD i false && !hasI ps (i : Int))
  | [], m, _ => by simp [clearPs, hasI]
  | p :: ps, m, h => by
    have ih := clearPs_getD i ps (m.set p.toNat false) (fun q hq => h q (by simp [hq]))
    have e : clearPs m (p :: ps) = clearPs (m.set p.toNat false) ps := rfl
    rw [e, ih]
    have hp := h p (by simp)
    by_cases hpi : p = i
    · subst hpi
      have e1 : (m.set ((i : Nat) : Int).toNat false).getD i false = false := by
        simp only [List.getD, Int.toNat_natCast]
        by_cases hi : i < m.length
        · rw [List.getElem?_set_self hi]; rfl
        · rw [List.getElem?_eq_none (by simp; omega)]; rfl
      rw [e1]; simp [hasI]
    · have e1 : (m.set p.toNat false).getD i false = m.getD i false := by
        simp only [List.getD]
        rw [List.getElem?_set_ne (by omega)]
      have e2 : hasI (p :: ps) (i : Int) = hasI ps (i : Int) := by simp [hasI, hpi]
      rw [e1, e2]
theorem idxOf_nonneg (m : List Bool) : ∀ p ∈ idxOf m, 0 ≤ p ∧ p < m.length := by
  intro p hp
  obtain ⟨k, hk, rfl⟩ := List.mem_map.1 hp
  have := List.mem_range.1 (List.mem_filter.1 hk).1
  omega
theorem idxOf_clear (m : List Bool) (ps : List Int) (h : ∀ p ∈ ps, 0 ≤ p) : idxOf (clearPs m ps) = (idxOf m).filter fun y => !hasI ps y := by
  unfold idxOf idxTo
  rw [clearPs_len, List.filter_map, List.filter_filter]
  congr 1
  refine List.filter_congr fun i _ => ?_
  rw [clearPs_getD i ps m h, Bool.and_comm]
  rfl
theorem row_set_f {m : List Bool} {p : Nat} : ((m.map fun s => (.bool s : Value)).set p (.bool false)) = (m.set p false).map fun s => .bool s := by
  rw [List.map_set]
theorem owns_bools_inv {w : World} : ∀ {m : List Bool} {us : List Value} {G : List Nat}, Owns w (m.flatMap cBools) us G → us = m.map (fun s => .bool s) ∧ G = []
  | [], _, _, h => ⟨h.1, h.2⟩
  | b :: m, _, _, ⟨u, us', F1, F2, e, f, h1, h2⟩ => by
    obtain ⟨rfl, rfl⟩ := owns_bools_inv h2
    obtain ⟨rfl, rfl⟩ : u = .bool b ∧ F1 = [] := h1
    exact ⟨e, f⟩
theorem Fresh.bools {w : World} {lo hi n c : Nat} {A : Option Addr} {m : List Bool} (h : Fresh w lo hi (encBools m) (.slice A n c)) (hn : 0 < m.length) :
    ∃ g, A = some ⟨g, 0, none⟩ ∧ lo ≤ g ∧ g < hi ∧ n = m.length ∧ w.ownsRow 0 4 1 (.slice (some ⟨g, 0, none⟩) n c) n (m.map fun s => .bool s) := by
  have hn' := Bools.n h.rep
  obtain ⟨F, ho, hnd, hk⟩ := h
  obtain ⟨us, G, hown, hF, ho2, hl, hc, hm, hA⟩ := Own.open_ ho
  obtain ⟨g, rfl⟩ := hA (by omega)
  obtain ⟨rfl, rfl⟩ := owns_bools_inv ho2
  have := hk g (by rw [hF]; simp [Value.ownBlock])
  exact ⟨g, rfl, this.1, this.2, hn', hown⟩

def ancNew (r : PRepo) (a b : Int) : List Int := if repoOk r && areIn r.commits.length [a, b] then (idxOf (ancs r.commits b.toNat)).filter fun y => !hasI (idxOf (ancs r.commits a.toNat)) y else []
theorem bnd_AncNew (r : PRepo) (a b : Int) : (ancNew r a b).length ≤ 16 := by
  unfold ancNew
  split
  · rename_i h
    simp only [Bool.and_eq_true] at h
    have := idxOf_len (ancs r.commits b.toNat)
    rw [ancs_len] at this
    have := (repoOk_iff.1 h.1).1
    have := List.length_filter_le (fun y => !hasI (idxOf (ancs r.commits a.toNat)) y) (idxOf (ancs r.commits b.toNat))
    omega
  · simp
theorem ancNew_no {r : PRepo} {a b : Int} (h : (repoOk r && areIn r.commits.length [a, b]) = false) : ancNew r a b = [] := by unfold ancNew; rw [h]; rfl
theorem ancNew_yes {r : PRepo} {a b : Nat} (h : (repoOk r && areIn r.commits.length [(a : Int), (b : Int)]) = true) : ancNew r a b = (idxOf (ancs r.commits b)).filter fun y => !hasI (idxOf (ancs r.commits a)) y := by
  unfold ancNew; rw [h]; rfl
theorem ancNew_clear {r : PRepo} {a b : Nat} (h : (repoOk r && areIn r.commits.length [(a : Int), (b : Int)]) = true) : ancNew r a b = idxOf (clearPs (ancs r.commits b) (idxOf (ancs r.commits a))) := by
  rw [ancNew_yes h, idxOf_clear _ _ (fun p hp => (idxOf_nonneg _ p hp).1)]

set_option maxRecDepth 100000 in
set_option maxHeartbeats 1600000 in
theorem impl_since_any (r : PRepo) (A0 A1 : Option Addr) (n0 c0 n1 c1 : Nat) (w : World) (lo hi : Nat) (h0 : Rep w lo hi (encCommits r.commits) (.slice A0 n0 c0)) (hh : hi ≤ w.heap.size) (hok : repoOk r = true) (b a : Nat) (hb : b < r.commits.length) (ha : a < r.commits.length) (z : Nat) (hz : z < w.heap.size) (hcz : w.cell? ⟨z, 0, none⟩ = some (.int .i64 a)) :
    Calls Tryd.prog 71 #[.agg #[.slice A0 n0 c0, .slice A1 n1 c1], .int .i64 b, .slice (some ⟨z, 0, none⟩) 1 1] w fun e w' => ∃ A n c, e = .returned (.slice A n c) ∧ Below w.heap.size w w' ∧ Fresh w' w.heap.size w'.heap.size (encInts (idxOf (clearPs (ancs r.commits b) (idxOf (ancs r.commits a))))) (.slice A n c) := by
  have hbx := fun o => (Below.refl w.heap.size w).alloc (Nat.le_refl _) o
  have cb := fun W (h : Rep W lo hi (encCommits r.commits) (.slice A0 n0 c0)) hW => impl_ancestors_any r A0 A1 n0 c0 n1 c1 W lo hi h hW hok b hb
  have ca := fun W (h : Rep W lo hi (encCommits r.commits) (.slice A0 n0 c0)) hW => impl_ancestors_any r A0 A1 n0 c0 n1 c1 W lo hi h hW hok a ha
  have h16 := (repoOk_iff.1 hok).1
  have lb := ancs_len r.commits b
  have la := ancs_len r.commits a
  obtain ⟨N, hN⟩ : ∃ N, N = r.commits.length := ⟨_, rfl⟩
  rw [← hN] at lb la hb ha h16
  have hN0 : 0 < N := by omega
  obtain ⟨mb, hmb⟩ : ∃ mb, mb = ancs r.commits b := ⟨_, rfl⟩
  obtain ⟨ma, hma⟩ : ∃ ma, ma = ancs r.commits a := ⟨_, rfl⟩
  rw [← hmb] at cb lb ⊢
  rw [← hma] at ca la ⊢
  have Lb := Lib.hid lb
  have La := Lib.hid la
  clear hN hmb hma lb la hok hb ha
  have hrng := idxOf_nonneg ma
  have hil := idxOf_len ma
  obtain ⟨ps, hps⟩ : ∃ ps, ps = idxOf ma := ⟨_, rfl⟩
  rw [← hps] at hrng hil ⊢
  have Hps := Lib.hid hps
  have hpl : ps.length ≤ 16 := by rw [La.out] at hil; omega
  rw [La.out] at hrng
  have Hrng := Lib.hid hrng
  clear hps hrng hil
  go_enter Tryd.func71, Tryd.ntmps71
  go_wp2_with fail
  refine Calls.mono (cb _ (h0.keep (hbx _) hh) (by simp; omega)) ?_
  rintro e w1 ⟨A3, n3, c3, rfl, hb1, hf⟩
  have q0 := box_two (a := w.heap.size) (j := 0) (v := .slice A0 n0 c0) hb1 (by simp [go_sem]) (Nat.le_refl _)
  have q1 := box_two (a := w.heap.size) (j := 1) (v := .slice A1 n1 c1) hb1 (by simp [go_sem]) (Nat.le_refl _)
  have hbw : Below w.heap.size w w1 := (hbx _).trans (hb1.mono (by simp))
  have hsz := hbw.size
  have dz : w1.cell? ⟨z, 0, none⟩ = some (.int .i64 a) := (hbw.cell (by exact hz)).trans hcz
  obtain ⟨g, rfl, hg1, hg2, hn3, hown⟩ := hf.bools (by rw [Lb.out]; exact hN0)
  have hN3 : n3 = N := by rw [hn3, Lb.out]
  obtain ⟨hc3, hm3⟩ := Bools.cap hf.rep
  subst hN3
  have hgb : w.heap.size < g := by simp at hg1; omega
  clear hf hn3 hb1 hg1
  go_wp2
  go_loopw [17] (fun i wr => ∃ (k : Nat) (m : List Bool), k ≤ 1 ∧ i = .int .i64 k ∧ m.length = n3 ∧ Hid (m = if k = 0 then mb else clearPs mb ps) ∧
      wr.ownsRow 0 4 1 (.slice (some ⟨g, 0, none⟩) n3 c3) n3 (m.map fun s => .bool s) ∧ Below w.heap.size w wr ∧ g < wr.heap.size ∧
      wr.cell? ⟨w.heap.size, 0, none⟩ = some (.slice A0 n0 c0) ∧ wr.cell? ⟨w.heap.size, 1, none⟩ = some (.slice A1 n1 c1)) (fun i _ => 1 - (intOf i).toNat)
  case atStart => exact ⟨0, mb, Nat.zero_le _, rfl, Lb.out, Lib.hid (by simp), hown, hbw, hg2, q0, q1⟩
  case round =>
    clear hown hbw hg2 q0 q1 dz hsz
    obtain ⟨k, m, hk, rfl, hlm, ht, hown, hbw, hg2, q0, q1⟩ := hrel
    have hsz := hbw.size
    rcases k with _ | k
    · have dz : wr.cell? ⟨z, 0, none⟩ = some (.int .i64 a) := (hbw.cell (by exact hz)).trans hcz
      have hm : m = mb := by simpa using ht.out
      have Hm := Lib.hid hm
      clear ht hm
      obtain ⟨wo, rfl⟩ : ∃ wo : World, wo = wr := ⟨_, rfl⟩
      go_wp2_with fail
      refine Calls.mono (ca _ (h0.keep hbw hh) (by omega)) ?_
      rintro e w4 ⟨A4, n4, c4, rfl, hb4, hf4⟩
      have hR4 := hf4.rep
      clear hf4
      go_wp2_with fail
      refine Calls.mono (impl_listOf_any _ _ _ _ _ _ _ hR4 (Nat.le_refl _) (by rw [La.out]; omega)) ?_
      rintro e w5 ⟨A5, n5, c5, rfl, hb5, hf5⟩
      rw [← Hps.out] at hf5
      have hR5 := hf5.rep
      have hn5 := Ints.n hR5
      obtain ⟨hc5, hm5⟩ := Ints.cap hR5
      subst hn5
      have hs4 := hb4.size
      have hs5 := hb5.size
      have hb45 := hb4.trans (hb5.mono hs4)
      have hbw5 := hbw.trans (hb45.mono hsz)
      have hown5 := ownsRow_same (w' := w5) hown (fun q hq => hb45.block q (by have := hown.lt q (by simpa using hq); exact this.2))
      have q05 : w5.cell? ⟨w.heap.size, 0, none⟩ = some (.slice A0 n0 c0) := (hb45.cell (by show w.heap.size < _; omega)).trans q0
      have q15 : w5.cell? ⟨w.heap.size, 1, none⟩ = some (.slice A1 n1 c1) := (hb45.cell (by show w.heap.size < _; omega)).trans q1
      have hg5 : g < w4.heap.size := by omega
      clear hf5 hR4 q0 q1 dz hown hb4 hb5 hb45 hbw
      go_wp2
      go_loopw [26] (fun i wr => ∃ (l : Nat) (m' : List Bool), l ≤ ps.length ∧ i = .int .i64 l ∧ m'.length = n3 ∧ Hid (m' = clearPs mb (ps.take l)) ∧
          wr.ownsRow 0 4 1 (.slice (some ⟨g, 0, none⟩) n3 c3) n3 (m'.map fun s => .bool s) ∧ Below w.heap.size w wr ∧ w5.heap.size ≤ wr.heap.size ∧ Rep wr w4.heap.size w5.heap.size (encInts ps) (.slice A5 ps.length c5) ∧
          wr.cell? ⟨w.heap.size, 0, none⟩ = some (.slice A0 n0 c0) ∧ wr.cell? ⟨w.heap.size, 1, none⟩ = some (.slice A1 n1 c1)) (fun i _ => ps.length - (intOf i).toNat)
      case atStart => exact ⟨0, m, Nat.zero_le _, rfl, hlm, Lib.hid (by rw [Hm.out]; rfl), hown5, hbw5, Nat.le_refl _, hR5, q05, q15⟩
      case round =>
        clear hown5 hbw5 hR5 q05 q15 hlm
        obtain ⟨l, m', hl, rfl, hlm, ht', hown, hbw, hsw, hR, q0, q1⟩ := hrel
        by_cases hln : l < ps.length
        · have hln' : (l : Int) < (ps.length : Int) := by omega
          obtain ⟨b5, o5, q, rfl, _, _, hqx, f5⟩ := Ints.at hR hln
          obtain ⟨hq0, hq1⟩ := Hrng.out q (List.mem_of_getElem? hqx)
          obtain ⟨p, rfl⟩ : ∃ p : Nat, q = p := ⟨q.toNat, by omega⟩
          have hpa : p < n3 := by omega
          have hcell := hown.cellAt p (by omega)
          obtain ⟨bz, hbz⟩ : ∃ bz, m'[p]? = some bz := ⟨m'[p]'(by omega), List.getElem?_eq_getElem (by omega)⟩
          rw [List.getElem?_map, hbz] at hcell
          have hfr := hown.frozenAt p
          have hnew := hown.stored p (.bool false)
          rw [row_set_f] at hnew
          have r0 : (wr.setCell ⟨g, p, none⟩ (.bool false)).cell? ⟨w.heap.size, 0, none⟩ = some (.slice A0 n0 c0) := by
            rw [World.cell?_of_block (hnew.2.block w.heap.size (by omega) (by simp; omega))]; exact q0
          have r1 : (wr.setCell ⟨g, p, none⟩ (.bool false)).cell? ⟨w.heap.size, 1, none⟩ = some (.slice A1 n1 c1) := by
            rw [World.cell?_of_block (hnew.2.block w.heap.size (by omega) (by simp; omega))]; exact q1
          have hR' := hR.same (w' := wr.setCell ⟨g, p, none⟩ (.bool false)) (fun k' h1 h2 => hnew.2.block k' (by omega) (by simp; omega))
          have hst : m'.set p false = clearPs mb (ps.take (l + 1)) := by
            rw [List.take_add_one, hqx, Option.toList, clearPs_snoc, ← ht'.out]; rfl
          have Hst := Lib.hid hst
          have hlm2 : (m'.set p false).length = n3 := by simpa using hlm
          clear hst hbz hqx
          go_wp2
          go_roundw
          case rel => exact ⟨l + 1, _, by omega, by go_num, hlm2, Hst, hnew.1, hbw.setCell (by show w.heap.size ≤ g; omega) _, by simpa using hsw, hR', r0, r1⟩
          case measure => first | (simp [intOf]; done) | (simp [intOf]; omega)
        · obtain rfl : l = ps.length := by omega
          have hm' : m' = clearPs mb ps := by rw [ht'.out, List.take_length]
          have Hm' := Lib.hid hm'
          clear hm'
          go_wp2
          go_roundw
          case rel => exact ⟨1, m', Nat.le_refl _, by go_num, hlm, Lib.hid (by rw [Hm'.out]; rfl), hown, hbw, by omega, q0, q1⟩
          case measure => first | (simp [intOf]; done) | (simp [intOf]; omega)
    · obtain rfl : k = 0 := by omega
      have hm : m = clearPs mb ps := by simpa using ht.out
      subst hm
      have hR : Rep wr 0 wr.heap.size (encBools (clearPs mb ps)) (.slice (some ⟨g, 0, none⟩) n3 c3) := (Fresh.of_row hown (owns_bools _ _)).rep
      clear ht
      go_wp2_with fail
      refine Calls.mono (impl_listOf_any _ _ _ _ _ _ _ hR (Nat.le_refl _) (by omega)) ?_
      rintro e w5 ⟨A5, n5, c5, rfl, hb5, hf5⟩
      have Hf := Lib.hid (hf5.mono hsz (Nat.le_refl _))
      have hbz := hbw.trans (hb5.mono hsz)
      clear hf5
      go_wp2
      go_ret
      exact ⟨_, _, _, rfl, hbz, Hf.out⟩
end Go.Proofs.YtocncjohpikfcaaDoor
