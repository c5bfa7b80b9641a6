import Derived.Test.YtmickenajhppoaaGreatDoorZ02
import Derived.StillTailTactics
/- Walks: the laws' own helpers at File: sz, to, eq. Printed by wip/harness.py. -/
namespace Go.Proofs.YtmickenajhppoaaGreatDoor
open Go.RowKit
def szFile (x : PFile) : Nat := x.path.length + total x.text
def szFiles (xs : List PFile) : Nat := xs.length + (xs.map szFile).sum
def okFile (x : PFile) : Prop := x.path.length ≤ 9223372036854775807 ∧ (∀ s ∈ x.text, s.length ≤ 9223372036854775807)
set_option maxRecDepth 100000 in
set_option maxHeartbeats 400000 in
theorem eqFile_any (x y : PFile) (Aa1 : Option Addr) (na1 ca1 : Nat) (Ab1 : Option Addr) (nb1 cb1 : Nat) (w : World) (lo hi lo' hi' : Nat) (ha1 : Rep w lo hi (encText x.text) (.slice Aa1 na1 ca1)) (hb1 : Rep w lo' hi' (encText y.text) (.slice Ab1 nb1 cb1)) (hh : hi ≤ w.heap.size) (hh' : hi' ≤ w.heap.size) :
    Calls Tryz.prog 32 #[.agg #[.string ⟨x.path.toArray⟩, .slice Aa1 na1 ca1], .agg #[.string ⟨y.path.toArray⟩, .slice Ab1 nb1 cb1]] w fun e w' => e = .returned (.bool (decide (x = y))) ∧ Below w.heap.size w w' := by
  obtain ⟨x0, x1⟩ := x
  obtain ⟨y0, y1⟩ := y
  dsimp only at *
  by_cases e0 : x0 = y0
  · subst e0
    by_cases e1 : x1 = y1
    · subst e1
      go_enter Tryz.func32, Tryz.ntmps32
      go_wp2_with fail
      refine Calls.mono (eqStringS_any _ _ _ _ _ _ x1 x1 _ lo hi lo' hi' ?_ ?_) ?_
      · exact ha1.keep (B := w.heap.size) (by (repeat' (first | with_reducible exact Below.refl _ _ | with_reducible assumption | (with_reducible refine Below.setCell ?_ ?_ _) | (with_reducible refine Below.alloc ?_ ?_ _) | (with_reducible refine below_drewN ?_ _) | (with_reducible refine Below.drew ?_) | omega | (simp; done) | (simp; omega)))) hh
      · exact hb1.keep (B := w.heap.size) (by (repeat' (first | with_reducible exact Below.refl _ _ | with_reducible assumption | (with_reducible refine Below.setCell ?_ ?_ _) | (with_reducible refine Below.alloc ?_ ?_ _) | (with_reducible refine below_drewN ?_ _) | (with_reducible refine Below.drew ?_) | omega | (simp; done) | (simp; omega)))) hh'
      rintro e w1 ⟨rfl, k1, rfl⟩
      go_wp2
      go_ret
      exact ⟨ret_bool (by simp), by (repeat' (first | with_reducible exact Below.refl _ _ | with_reducible assumption | (with_reducible refine Below.setCell ?_ ?_ _) | (with_reducible refine Below.alloc ?_ ?_ _) | (with_reducible refine below_drewN ?_ _) | (with_reducible refine Below.drew ?_) | omega | (simp; done) | (simp; omega)))⟩
    · have q1 : decide (x1 = y1) = false := by simp [e1]
      go_enter Tryz.func32, Tryz.ntmps32
      go_wp2_with fail
      refine Calls.mono (eqStringS_any _ _ _ _ _ _ x1 y1 _ lo hi lo' hi' ?_ ?_) ?_
      · exact ha1.keep (B := w.heap.size) (by (repeat' (first | with_reducible exact Below.refl _ _ | with_reducible assumption | (with_reducible refine Below.setCell ?_ ?_ _) | (with_reducible refine Below.alloc ?_ ?_ _) | (with_reducible refine below_drewN ?_ _) | (with_reducible refine Below.drew ?_) | omega | (simp; done) | (simp; omega)))) hh
      · exact hb1.keep (B := w.heap.size) (by (repeat' (first | with_reducible exact Below.refl _ _ | with_reducible assumption | (with_reducible refine Below.setCell ?_ ?_ _) | (with_reducible refine Below.alloc ?_ ?_ _) | (with_reducible refine below_drewN ?_ _) | (with_reducible refine Below.drew ?_) | omega | (simp; done) | (simp; omega)))) hh'
      rintro e w1 ⟨rfl, k1, rfl⟩
      go_wp2
      go_ret
      exact ⟨ret_bool (by simp [e1]), by (repeat' (first | with_reducible exact Below.refl _ _ | with_reducible assumption | (with_reducible refine Below.setCell ?_ ?_ _) | (with_reducible refine Below.alloc ?_ ?_ _) | (with_reducible refine below_drewN ?_ _) | (with_reducible refine Below.drew ?_) | omega | (simp; done) | (simp; omega)))⟩
  · have q0 : (x0 == y0) = false := by simp [e0]
    go_enter Tryz.func32, Tryz.ntmps32
    go_wp2
    go_ret
    exact ⟨ret_bool (by simp [e0]), by (repeat' (first | with_reducible exact Below.refl _ _ | with_reducible assumption | (with_reducible refine Below.setCell ?_ ?_ _) | (with_reducible refine Below.alloc ?_ ?_ _) | (with_reducible refine below_drewN ?_ _) | (with_reducible refine Below.drew ?_) | omega | (simp; done) | (simp; omega)))⟩
set_option maxRecDepth 100000 in
set_option maxHeartbeats 400000 in
theorem eqFileS_any (A1 A2 : Option Addr) (n1 c1 n2 c2 : Nat) (xs ys : List PFile) (w : World) (lo hi lo' hi' : Nat) (h1 : Rep w lo hi (encFiles xs) (.slice A1 n1 c1)) (h2 : Rep w lo' hi' (encFiles ys) (.slice A2 n2 c2)) (hh : hi ≤ w.heap.size) (hh' : hi' ≤ w.heap.size) :
    Calls Tryz.prog 10 #[.slice A1 n1 c1, .slice A2 n2 c2] w fun e w' => e = .returned (.bool (decide (xs = ys))) ∧ Below w.heap.size w w' := by
  have hl1 := Files.n h1
  have hl2 := Files.n h2
  obtain ⟨hc1, hm1⟩ := Files.cap h1
  subst hl1 hl2
  by_cases hn : xs.length = ys.length
  · have hn' : ((xs.length : Int) != (ys.length : Int)) = false := by simp [hn]
    have Hn := Lib.hid hn
    clear hn
    go_enter Tryz.func10, Tryz.ntmps10
    go_wp2
    go_loopw [5] (fun i wr => ∃ k : Nat, k ≤ xs.length ∧ i = .int .i64 k ∧ Hid (xs.take k = ys.take k) ∧ Below w.heap.size w wr) (fun i _ => xs.length - (intOf i).toNat)
    case atStart => exact ⟨0, Nat.zero_le _, rfl, Lib.hid (by simp), Below.refl _ _⟩
    case round =>
      obtain ⟨k, hk, rfl, ht, hb⟩ := hrel
      by_cases hlt : k < xs.length
      · have hs := hb.size
        obtain ⟨b1, o1, x, rfl, _, _, hx, Aa1, na1, ca1, d0, d1, ra1⟩ := Files.at (h1.keep hb hh) hlt
        obtain ⟨b2, o2, y, rfl, _, _, hy, Ab1, nb1, cb1, f0, f1, rb1⟩ := Files.at (h2.keep hb hh') (k := k) (by have := Hn.out; omega)
        have hlt' : (k : Int) < (xs.length : Int) := by omega
        have hlt2 : (k : Int) < (ys.length : Int) := by have := Hn.out; omega
        have hkey : xs.take (k + 1) = ys.take (k + 1) ↔ x = y := by
          rw [List.take_add_one, List.take_add_one, hx, hy, ht.out]; simp
        have Hk := Lib.hid hkey
        clear hx hy hkey
        by_cases he : x = y
        · have hd : decide (x = y) = true := by simp [he]
          have He := Lib.hid he
          clear he
          go_wp2
          go_still_tail 8, (by kernel_rfl)
          change wpList _ _ _ _ _ (wr.drewN 1)
          go_wp2_with fail
          refine Calls.mono (eqFile_any x y _ _ _ _ _ _ _ lo hi lo' hi' (ra1.drewN 1) (rb1.drewN 1) (by first | omega | (simp; done) | (simp; omega)) (by first | omega | (simp; done) | (simp; omega))) ?_
          rintro e w2 ⟨rfl, hb2⟩
          have hb2' : Below w.heap.size w w2 := (below_drewN hb 1).trans (hb2.mono (by first | omega | (simp; done) | (simp; omega)))
          go_wp2
          go_roundw
          case rel => exact ⟨k + 1, by omega, by go_num, Lib.hid (Hk.out.2 He.out), hb2'⟩
          case measure => simp [intOf]; omega
        · have hd : decide (x = y) = false := by simp [he]
          go_wp2
          go_still_tail 8, (by kernel_rfl)
          change wpList _ _ _ _ _ (wr.drewN 1)
          go_wp2_with fail
          refine Calls.mono (eqFile_any x y _ _ _ _ _ _ _ lo hi lo' hi' (ra1.drewN 1) (rb1.drewN 1) (by first | omega | (simp; done) | (simp; omega)) (by first | omega | (simp; done) | (simp; omega))) ?_
          rintro e w2 ⟨rfl, hb2⟩
          have hb2' : Below w.heap.size w w2 := (below_drewN hb 1).trans (hb2.mono (by first | omega | (simp; done) | (simp; omega)))
          go_wp2
          go_ret
          have hne : xs ≠ ys := fun e => he (Hk.out.1 (by rw [e]))
          exact ⟨ret_bool (by simp [hne]), hb2'⟩
      · go_wp2
        go_ret
        have heq : xs = ys := by
          have ht := ht.out
          have hn := Hn.out
          rwa [List.take_of_length_le (by omega), List.take_of_length_le (by omega)] at ht
        exact ⟨ret_bool (by simp [heq]), hb⟩
  · have hn' : ((xs.length : Int) != (ys.length : Int)) = true := by simp; omega
    go_enter Tryz.func10, Tryz.ntmps10
    go_wp2
    go_ret
    have hne : xs ≠ ys := fun e => hn (by rw [e])
    exact ⟨ret_bool (by simp [hne]), Below.refl _ _⟩
set_option maxRecDepth 100000 in
set_option maxHeartbeats 400000 in
theorem szFile_any (x : PFile) (Aa1 : Option Addr) (na1 ca1 : Nat) (w : World) (lo hi : Nat) (left : Int) (ha1 : Rep w lo hi (encText x.text) (.slice Aa1 na1 ca1)) (hh : hi ≤ w.heap.size) (hok : okFile x) (h0 : 0 ≤ left) (h1 : left ≤ 1048576) :
    Calls Tryz.prog 15 #[.agg #[.string ⟨x.path.toArray⟩, .slice Aa1 na1 ca1], .int .i64 left] w fun e w' => (∃ r : Int, e = .returned (.int .i64 r) ∧ -1 ≤ r ∧ r ≤ left ∧ (0 ≤ r → (szFile x : Int) ≤ left - r)) ∧ Below w.heap.size w w' := by
  unfold okFile at hok
  unfold szFile
  go_enter Tryz.func15, Tryz.ntmps15
  have ok0 := hok.1
  by_cases g1 : left - (x.path.length : Int) < 0
  · go_wp2
    go_ret
    exact ⟨⟨-1, rfl, by omega, by omega, fun h => absurd h (by omega)⟩, by (repeat' (first | with_reducible exact Below.refl _ _ | with_reducible assumption | (with_reducible refine Below.setCell ?_ ?_ _) | (with_reducible refine Below.alloc ?_ ?_ _) | (with_reducible refine below_drewN ?_ _) | (with_reducible refine Below.drew ?_) | omega | (simp; done) | (simp; omega)))⟩
  ·
    go_wp2_with fail
    refine Calls.mono (szStringS_any _ _ _ x.text _ lo hi _ ?_ hok.2 ?_ ?_) ?_
    · exact ha1.keep (B := w.heap.size) (by (repeat' (first | with_reducible exact Below.refl _ _ | with_reducible assumption | (with_reducible refine Below.setCell ?_ ?_ _) | (with_reducible refine Below.alloc ?_ ?_ _) | (with_reducible refine below_drewN ?_ _) | (with_reducible refine Below.drew ?_) | omega | (simp; done) | (simp; omega)))) hh
    · omega
    · omega
    rintro e w2 ⟨⟨r2, rfl, hl2, hu2, hz2⟩, rfl⟩
    by_cases g2 : r2 < 0
    · go_wp2
      go_ret
      exact ⟨⟨-1, rfl, by omega, by omega, fun h => absurd h (by omega)⟩, by (repeat' (first | with_reducible exact Below.refl _ _ | with_reducible assumption | (with_reducible refine Below.setCell ?_ ?_ _) | (with_reducible refine Below.alloc ?_ ?_ _) | (with_reducible refine below_drewN ?_ _) | (with_reducible refine Below.drew ?_) | omega | (simp; done) | (simp; omega)))⟩
    ·
      go_wp2
      go_ret
      exact ⟨⟨_, rfl, by omega, by omega, fun _ => by omega⟩, by (repeat' (first | with_reducible exact Below.refl _ _ | with_reducible assumption | (with_reducible refine Below.setCell ?_ ?_ _) | (with_reducible refine Below.alloc ?_ ?_ _) | (with_reducible refine below_drewN ?_ _) | (with_reducible refine Below.drew ?_) | omega | (simp; done) | (simp; omega)))⟩
set_option maxRecDepth 100000 in
set_option maxHeartbeats 400000 in
theorem szFileS_any (A : Option Addr) (n c : Nat) (xs : List PFile) (w : World) (lo hi : Nat) (left : Int) {e : Nat} (h : Rep w lo hi (encFilesE e xs) (.slice A n c)) (hh : hi ≤ w.heap.size) (hs : ∀ x ∈ xs, okFile x) (h0 : 0 ≤ left) (h1 : left ≤ 1048576) :
    Calls Tryz.prog 4 #[.slice A n c, .int .i64 left] w fun e w' => (∃ r : Int, e = .returned (.int .i64 r) ∧ -1 ≤ r ∧ r ≤ left ∧ (0 ≤ r → (szFiles xs : Int) ≤ left - r)) ∧ Below w.heap.size w w' := by
  have hl := Files.n h
  obtain ⟨hc, hm⟩ := Files.cap h
  subst hl
  by_cases hlt : left - (xs.length : Int) < 0
  · go_enter Tryz.func4, Tryz.ntmps4
    go_wp2
    go_ret
    exact ⟨⟨-1, rfl, by omega, by omega, fun h => absurd h (by omega)⟩, Below.refl _ _⟩
  · go_enter Tryz.func4, Tryz.ntmps4
    go_wp2
    go_loopw [1, 5] (fun l i wr => ∃ k : Nat, ∃ r : Int, k ≤ xs.length ∧ i = .int .i64 k ∧ l = .int .i64 r ∧ 0 ≤ r ∧ r ≤ left ∧ Hid ((xs.length + ((xs.take k).map szFile).sum : Int) ≤ left - r) ∧ Below w.heap.size w wr) (fun _ i _ => xs.length - (intOf i).toNat)
    case atStart => exact ⟨0, _, Nat.zero_le _, rfl, rfl, by omega, by omega, Lib.hid (by first | omega | (simp; done) | (simp; omega)), Below.refl _ _⟩
    case round =>
      obtain ⟨k, r, hk, rfl, rfl, hr0, hr1, ht, hb⟩ := hrel
      by_cases hkn : k < xs.length
      · obtain ⟨b1, o1, x, rfl, _, _, hx, Aa1, na1, ca1, d0, d1, ra1⟩ := Files.at (h.keep hb hh) hkn
        have hkn' : (k : Int) < (xs.length : Int) := by omega
        have hox := hs x (List.mem_of_getElem? hx)
        have hsum : ((xs.take (k + 1)).map szFile).sum = ((xs.take k).map szFile).sum + szFile x := by
          rw [List.take_add_one, hx]; simp
        have H1 := Lib.hid hsum
        have Hok := Lib.hid hox
        clear hsum hx hs hox
        go_wp2_with fail
        refine Calls.mono (szFile_any x _ _ _ _ lo hi r ra1 (Nat.le_trans hh hb.size) Hok.out (by omega) (by omega)) ?_
        rintro e w2 ⟨⟨r2, rfl, hl2, hu2, hz2⟩, hb2⟩
        have hb2' := hb.trans (hb2.mono hb.size)
        by_cases hneg : r2 < 0
        · go_wp2
          go_ret
          exact ⟨⟨-1, rfl, by omega, by omega, fun h => absurd h (by omega)⟩, hb2'⟩
        · go_wp2
          go_roundw
          case rel => exact ⟨k + 1, r2, by omega, by go_num, rfl, by omega, by omega, Lib.hid (by have := H1.out; have := ht.out; have := hz2 (by omega); omega), hb2'⟩
          case measure => simp [intOf]; omega
      · go_wp2
        go_ret
        refine ⟨⟨r, rfl, by omega, by omega, fun _ => ?_⟩, hb⟩
        have ht := ht.out
        rw [List.take_of_length_le (by omega)] at ht
        unfold szFiles
        omega
theorem zeroFile : True := trivial
set_option maxRecDepth 100000 in
set_option maxHeartbeats 800000 in
theorem toFile_any (x : PFile) (Aa1 : Option Addr) (na1 ca1 : Nat) (w : World) (lo hi : Nat) (ha1 : Rep w lo hi (encText x.text) (.slice Aa1 na1 ca1)) (hh : hi ≤ w.heap.size) (hs1 : x.text.length ≤ 1048576) :
    Calls Tryz.prog 21 #[.agg #[.string ⟨x.path.toArray⟩, .slice Aa1 na1 ca1]] w fun e w' => ∃ Ao1 no1 co1, e = .returned (.agg #[.string ⟨x.path.toArray⟩, .slice Ao1 no1 co1]) ∧ Below w.heap.size w w' ∧ FreshL w' w.heap.size w'.heap.size (cFiles x) [.string ⟨x.path.toArray⟩, .slice Ao1 no1 co1] := by
  obtain ⟨x0, x1⟩ := x
  dsimp only at *
  go_enter Tryz.func21, Tryz.ntmps21
  go_wp2_with fail
  refine Calls.mono (toStringS_any _ _ _ x1 _ lo hi ?_ ?_ hs1) ?_
  · exact ha1.keep (B := w.heap.size) (by (repeat' (first | with_reducible exact Below.refl _ _ | with_reducible assumption | (with_reducible refine Below.setCell ?_ ?_ _) | (with_reducible refine Below.alloc ?_ ?_ _) | (with_reducible refine below_drewN ?_ _) | (with_reducible refine Below.drew ?_) | omega | (simp; done) | (simp; omega)))) hh
  · first | omega | (simp; omega)
  rintro e w1 ⟨Ao1, no1, co1, rfl, hb1, hf1⟩
  have bw1 : Below w.heap.size w w1 := Below.trans (by (repeat' (first | with_reducible exact Below.refl _ _ | with_reducible assumption | (with_reducible refine Below.setCell ?_ ?_ _) | (with_reducible refine Below.alloc ?_ ?_ _) | (with_reducible refine below_drewN ?_ _) | (with_reducible refine Below.drew ?_) | omega | (simp; done) | (simp; omega)))) (hb1.mono (by first | omega | (simp; done) | (simp; omega)))
  obtain ⟨hc1, hz1⟩ := bcell hb1
  have hsz1 := hb1.size
  have k1p0 : w1.cell? ⟨w.heap.size, 0, none⟩ = some (.string ⟨x0.toArray⟩) := by rw [hc1 _ _ (by first | omega | (simp; done) | (simp; omega))]; go_simp
  have k1r0 : w1.cell? ⟨w.heap.size + 1, 0, none⟩ = some (.string ⟨#[]⟩) := by rw [hc1 _ _ (by first | omega | (simp; done) | (simp; omega))]; go_simp
  have k1o0 : w1.cell? ⟨w.heap.size + 1 + 1, 0, none⟩ = some (.string ⟨x0.toArray⟩) := by rw [hc1 _ _ (by first | omega | (simp; done) | (simp; omega))]; go_simp
  have k1p1 : w1.cell? ⟨w.heap.size, 1, none⟩ = some (.slice Aa1 na1 ca1) := by rw [hc1 _ _ (by first | omega | (simp; done) | (simp; omega))]; go_simp
  have k1r1 : w1.cell? ⟨w.heap.size + 1, 1, none⟩ = some (.slice none 0 0) := by rw [hc1 _ _ (by first | omega | (simp; done) | (simp; omega))]; go_simp
  have k1o1 : w1.cell? ⟨w.heap.size + 1 + 1, 1, none⟩ = some (.slice none 0 0) := by rw [hc1 _ _ (by first | omega | (simp; done) | (simp; omega))]; go_simp
  have z1r : ∀ j, w1.frozen? ⟨w.heap.size + 1, j, none⟩ = false := fun j => by rw [hz1 _ _ (by first | omega | (simp; done) | (simp; omega))]; go_simp
  have z1o : ∀ j, w1.frozen? ⟨w.heap.size + 1 + 1, j, none⟩ = false := fun j => by rw [hz1 _ _ (by first | omega | (simp; done) | (simp; omega))]; go_simp
  try simp at hsz1
  try simp at hf1
  clear hc1 hz1 hb1
  go_wp2
  refine bodyPost_ret (v := .agg #[.string ⟨x0.toArray⟩, .slice Ao1 no1 co1]) (by simp [results, Tryz.results21, go_sem, k1r0, k1r1]) rfl ?_
  exact ⟨Ao1, no1, co1, rfl, by (repeat' (first | with_reducible exact Below.refl _ _ | with_reducible assumption | (with_reducible refine Below.setCell ?_ ?_ _) | (with_reducible refine Below.alloc ?_ ?_ _) | (with_reducible refine below_drewN ?_ _) | (with_reducible refine Below.drew ?_) | omega | (simp; done) | (simp; omega))), FreshL.mono (FreshL.plain ⟨rfl, rfl⟩ (FreshL.cons (hf1.same (by (repeat' (first | with_reducible exact Same.refl _ _ _ | (with_reducible refine Same.setCell ?_ ?_ _) | omega | (simp; done) | (simp; omega))))) (FreshL.nil _ _ _) (by first | omega | (simp; done) | (simp; omega)) (by first | omega | (simp; done) | (simp; omega)))) (by first | omega | (simp; done) | (simp; omega)) (Nat.le_refl _)⟩
theorem Tryz.infoFile : (Tryz.prog.info? 48).map (fun i => (i.zero, i.size, i.bytes)) = some (some (.agg #[.string ⟨#[]⟩, .slice none 0 0]), 2, 40) := by kernel_rfl
set_option maxRecDepth 100000 in
set_option maxHeartbeats 800000 in
theorem toFileS_any (A : Option Addr) (n c : Nat) (xs : List PFile) (w : World) (lo hi : Nat) {e : Nat} (h : Rep w lo hi (encFilesE e xs) (.slice A n c)) (hh : hi ≤ w.heap.size) (hsz : szFiles xs ≤ 1048576) :
    Calls Tryz.prog 7 #[.slice A n c] w fun e w' => ∃ A' n' c', e = .returned (.slice A' n' c') ∧ Below w.heap.size w w' ∧ Fresh w' w.heap.size w'.heap.size (encFiles xs) (.slice A' n' c') := by
  have hl := Files.n h
  obtain ⟨hc, hm⟩ := Files.cap h
  subst hl
  have hn : xs.length ≤ 1048576 := by unfold szFiles at hsz; omega
  have hall : ∀ x ∈ xs, szFile x ≤ 1048576 := by
    intro x hx
    have : szFile x ≤ (xs.map szFile).sum := le_sum_of_mem (List.mem_map_of_mem hx)
    unfold szFiles at hsz; omega
  obtain ⟨i, hi0, hi1, hi2, hi3⟩ := info_parts Tryz.infoFile
  go_enter Tryz.func7, Tryz.ntmps7
  go_wp2_with (at_make; refine wpList_make_full _ rfl _ _ _ rfl w.heap.size 48 i _ 2 Tryz.underlying26 hi0 hi1 hi2 _ _ _ _ xs.length rfl rfl rfl rfl ?c1 ?c2 ?c3 ?_)
  case c1 => rw [hi3]; omega
  case c2 => unfold maxLen; omega
  case c3 => exact Nat.le_refl _
  intro w1 hown hg
  have hb1 : Below w.heap.size w w1 := (Below.refl _ _).grown hg (Nat.le_refl _) (by simp)
  have hsz1 : w.heap.size < w1.heap.size := (hown.lt _ rfl).2
  go_wp2
  go_loopw [4] (fun i wr => ∃ (k : Nat) (us : List Value), k ≤ xs.length ∧ i = .int .i64 k ∧ wr.ownsRow w.heap.size 48 2 (.slice (some ⟨w.heap.size, 0, none⟩) xs.length xs.length) xs.length us ∧
      FreshL wr (w.heap.size + 1) wr.heap.size ((xs.take k).flatMap cFiles) (us.take (k * 2)) ∧ Below w.heap.size w wr ∧ w.heap.size < wr.heap.size) (fun i _ => xs.length - (intOf i).toNat)
  case atStart => exact ⟨0, _, Nat.zero_le _, rfl, hown, by simp; exact FreshL.nil _ _ _, hb1, hsz1⟩
  case round =>
    clear hown hg hb1 hsz1
    obtain ⟨k, us, hk, rfl, hown, hfl, hb, hsz1⟩ := hrel
    by_cases hkn : k < xs.length
    · obtain ⟨b1, o1, x, rfl, _, _, hx, Aa1, na1, ca1, d0, d1, ra1⟩ := Files.at (h.keep hb hh) hkn
      have hkn' : (k : Int) < (xs.length : Int) := by omega
      have hsm := hall x (List.mem_of_getElem? hx)
      have Hsm := Lib.hid hsm
      have Hx := Lib.hid hx
      clear hsm hx hall hsz
      go_wp2_with fail
      refine Calls.mono (toFile_any x _ _ _ wr lo hi ra1 (Nat.le_trans hh hb.size) (by have := Hsm.out; unfold szFile at this; unfold total at this; omega)) ?_
      rintro e w2 ⟨Ao1, no1, co1, rfl, hb2, hf2⟩
      have hown2 := ownsRow_same (w' := w2) hown (fun q hq => hb2.block q (by simp [Value.ownBlock] at hq; omega))
      have hfl2 := hfl.same (w' := w2) (Same.of_below hb2 (Nat.le_refl _))
      have hb3 := hb.trans (hb2.mono hb.size)
      have hsz3 : w.heap.size < w2.heap.size := Nat.lt_of_lt_of_le hsz1 hb2.size
      have hul := hown2.1
      obtain ⟨u0, hu0⟩ : ∃ u, us[k * 2]? = some u := ⟨us[k * 2]'(by omega), List.getElem?_eq_getElem (by omega)⟩
      have y0 := hown2.cellAt (k * 2) (by omega)
      rw [hu0] at y0
      obtain ⟨u1, hu1⟩ : ∃ u, us[k * 2 + 1]? = some u := ⟨us[k * 2 + 1]'(by omega), List.getElem?_eq_getElem (by omega)⟩
      have y1 := hown2.cellAt (k * 2 + 1) (by omega)
      rw [hu1] at y1
      have hfr := fun j => hown2.frozenAt j
      have s0 := (hown2.stored (k * 2) (.string ⟨x.path.toArray⟩)).1
      have s1 := (s0.stored (k * 2 + 1) (.slice Ao1 no1 co1)).1
      have htake : ((us.set (k * 2) (.string ⟨x.path.toArray⟩)).set (k * 2 + 1) (.slice Ao1 no1 co1)).take ((k + 1) * 2) = us.take (k * 2) ++ [.string ⟨x.path.toArray⟩, .slice Ao1 no1 co1] := by
        rw [show (k + 1) * 2 = k * 2 + 1 + 1 by omega]
        rw [take_set1 (by first | omega | (simp; done) | (simp; omega)), take_set1 (by first | omega | (simp; done) | (simp; omega))]; simp
      have hflat : (xs.take (k + 1)).flatMap cFiles = (xs.take k).flatMap cFiles ++ cFiles x := by rw [List.take_add_one, Hx.out]; simp
      have hnew := hfl2.append hf2 (by omega) hb2.size
      rw [← htake, ← hflat] at hnew
      have Hf := Lib.hid hnew
      clear hu0 hu1 s0 htake hflat hul hfl hfl2 hf2 hnew hb2 hown hown2
      go_wp2
      go_roundw
      case rel => exact ⟨k + 1, _, by omega, by go_num, s1, FreshL.mono (Hf.out.same (by (repeat' (first | with_reducible exact Same.refl _ _ _ | (with_reducible refine Same.setCell ?_ ?_ _) | omega | (simp; done) | (simp; omega))))) (Nat.le_refl _) (by first | omega | (simp; done) | (simp; omega)), by (repeat' (first | with_reducible exact Below.refl _ _ | with_reducible assumption | (with_reducible refine Below.setCell ?_ ?_ _) | (with_reducible refine Below.alloc ?_ ?_ _) | (with_reducible refine below_drewN ?_ _) | (with_reducible refine Below.drew ?_) | omega | (simp; done) | (simp; omega))), by simpa using hsz3⟩
      case measure => simp [intOf]; omega
    · go_wp2
      go_ret
      have hul := hown.1
      rw [List.take_of_length_le (by omega), List.take_of_length_le (by omega)] at hfl
      exact ⟨_, _, _, rfl, hb, Fresh.row_above hown hfl (fun g hg => by simp [Value.ownBlock] at hg; omega) (by omega) (Nat.le_refl _)⟩
end Go.Proofs.YtmickenajhppoaaGreatDoor
