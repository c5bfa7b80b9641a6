import Derived.Test.YtmickenajhppoaaGreatDoorInsert
import Derived.Test.YtmickenajhppoaaGreatDoorZ28
import Derived.Deep.RegionHeld3
import Derived.Deep.DeepCutAuto
/- Walk: the program's put: a copy of a tree with one file at its place. -/
namespace Go.Proofs.YtmickenajhppoaaGreatDoor
open Go.RowKit

theorem pair_cells {w : World} {g t : Nat} {a b : Value} (h : w.heap[g]? = some (.cells #[a, b] t (0, 0))) : w.cell? ⟨g, 0, none⟩ = some a ∧ w.cell? ⟨g, 1, none⟩ = some b ∧ w.frozen? ⟨g, 0, none⟩ = false ∧ w.frozen? ⟨g, 1, none⟩ = false := by
  simp [World.cell?, World.frozen?, h]
theorem pair_set {w : World} {g : Nat} {a b u0 u1 : Value} (h0 : w.cell? ⟨g, 0, none⟩ = some a) (h1 : w.cell? ⟨g, 1, none⟩ = some b) :
    ((w.setCell ⟨g, 0, none⟩ u0).setCell ⟨g, 1, none⟩ u1).cell? ⟨g, 0, none⟩ = some u0 ∧ ((w.setCell ⟨g, 0, none⟩ u0).setCell ⟨g, 1, none⟩ u1).cell? ⟨g, 1, none⟩ = some u1 := by
  refine ⟨?_, ?_⟩
  · rw [World.cell?_setCell_other _ _ _ _ (by simp)]
    exact World.cell?_setCell_same _ _ _ h0
  · refine World.cell?_setCell_same _ _ _ (?_ : _ = some b)
    rw [World.cell?_setCell_other _ _ _ _ (by simp)]
    exact h1
/-- A list of elements that owns its blocks, some others put into its midst. -/
theorem Fresh.spliced {w w' : World} {lo mid e z n' : Nat} {ps1 ps2 qs : List PV} {us1 us2 ns : List Value} {v v' : Value} {G1 G2 F : List Nat} (ho1 : Owns w ps1 us1 G1) (ho2 : Owns w ps2 us2 G2) (hof : Owns w qs ns F)
    (hnd : (v.ownBlock.toList ++ (G1 ++ G2)).Nodup) (hb : ∀ k ∈ v.ownBlock.toList ++ (G1 ++ G2), lo ≤ k ∧ k < mid) (hF : F.Nodup) (hFb : ∀ k ∈ F, mid ≤ k ∧ k < w.heap.size) (hmid : mid ≤ w.heap.size) (hlo : lo ≤ mid)
    (hrow : w'.ownsRow lo e z v' n' (us1 ++ (ns ++ us2))) (hkeep : ∀ k, k < w.heap.size → some k ≠ v.ownBlock → w'.heap[k]? = w.heap[k]?) (hsz : w.heap.size ≤ w'.heap.size)
    (hblk : v'.ownBlock = v.ownBlock ∨ ∃ g, v'.ownBlock = some g ∧ w.heap.size ≤ g) : Fresh w' lo w'.heap.size (.sl e z (ps1 ++ (qs ++ ps2))) v' := by
  obtain ⟨hv0, hv1, hv2⟩ := List.nodup_append.1 hnd
  have hGv : ∀ k ∈ G1 ++ G2, some k ≠ v.ownBlock := fun k hk e => hv2 k (by rw [← e]; simp) k hk rfl
  have hFv : ∀ k ∈ F, some k ≠ v.ownBlock := fun k hk e => by
    have h1 := (hb k (List.mem_append_left _ (by rw [← e]; simp))).2
    have h2 := (hFb k hk).1
    omega
  have hGb : ∀ k ∈ G1 ++ G2, lo ≤ k ∧ k < mid := fun k hk => hb k (List.mem_append_right _ hk)
  have k1 : ∀ q ∈ G1, w'.heap[q]? = w.heap[q]? := fun q hq => hkeep q (by have := hGb q (List.mem_append_left _ hq); omega) (hGv q (List.mem_append_left _ hq))
  have k2 : ∀ q ∈ G2, w'.heap[q]? = w.heap[q]? := fun q hq => hkeep q (by have := hGb q (List.mem_append_right _ hq); omega) (hGv q (List.mem_append_right _ hq))
  have k3 : ∀ q ∈ F, w'.heap[q]? = w.heap[q]? := fun q hq => hkeep q (hFb q hq).2 (hFv q hq)
  have hall : Owns w' (ps1 ++ (qs ++ ps2)) (us1 ++ (ns ++ us2)) (G1 ++ (F ++ G2)) := (Owns.same _ _ _ ho1 k1).append ((Owns.same _ _ _ hof k3).append (Owns.same _ _ _ ho2 k2))
  have hv' : ∀ k, v'.ownBlock = some k → lo ≤ k ∧ k < w'.heap.size := fun k hk => hrow.lt k hk
  obtain ⟨a1, a2, a3⟩ := List.nodup_append.1 hv1
  refine ⟨v'.ownBlock.toList ++ (G1 ++ (F ++ G2)), ⟨n', us1 ++ (ns ++ us2), G1 ++ (F ++ G2), ⟨hrow.1, ?_⟩, rfl, hall⟩, List.nodup_append.2 ⟨by cases v'.ownBlock <;> simp, List.nodup_append.2 ⟨a1, List.nodup_append.2 ⟨hF, a2, fun a ha b hb' e => ?_⟩, fun a ha b hb' e => ?_⟩, fun a ha b hb' e => ?_⟩, fun k m => ?_⟩
  · rcases hrow.2 with h2 | ⟨g, cap, cur, r⟩
    · exact .inl h2
    · exact .inr ⟨g, cap, cur, r.1, Nat.zero_le _, r.2.2⟩
  · have := (hFb a ha).1; have := (hGb b (List.mem_append_right _ hb')).2; omega
  · rcases List.mem_append.1 hb' with m | m
    · have := (hFb b m).1; have := (hGb a (List.mem_append_left _ ha)).2; omega
    · exact a3 a ha b m e
  · have hm : b ∈ F ∨ b ∈ G1 ++ G2 := by
      rcases List.mem_append.1 hb' with m | m
      · exact .inr (List.mem_append_left _ m)
      · rcases List.mem_append.1 m with m | m
        · exact .inl m
        · exact .inr (List.mem_append_right _ m)
    have ha' : v'.ownBlock = some a := by simpa using ha
    subst e
    rcases hblk with e1 | ⟨g, e1, hg⟩
    · rcases hm with m | m
      · exact hFv a m (by rw [← e1, ha'])
      · exact hGv a m (by rw [← e1, ha'])
    · rw [ha'] at e1
      obtain rfl := Option.some.inj e1
      rcases hm with m | m
      · have := (hFb a m).2; omega
      · have := (hGb a m).2; omega
  · rcases List.mem_append.1 m with m | m
    · exact hv' k (by simpa using m)
    · rcases List.mem_append.1 m with m | m
      · have := hGb k (List.mem_append_left _ m); omega
      · rcases List.mem_append.1 m with m | m
        · have := hFb k m; omega
        · have := hGb k (List.mem_append_right _ m); omega
theorem own_head {w : World} {lo e z n c b o : Nat} {A : Option Addr} {us : List Value} (h : w.ownsRow lo e z (.slice A n c) n us) (hA : A = some ⟨b, o, none⟩) : o = 0 := by
  subst hA
  rcases h.2 with ⟨e1, _⟩ | ⟨g, cap, cur, e1, _⟩
  · cases e1
  · cases e1; rfl
theorem own_frozen {w : World} {lo e z n c g : Nat} {us : List Value} (h : w.ownsRow lo e z (.slice (some ⟨g, 0, none⟩) n c) n us) (j : Nat) : w.frozen? ⟨g, j, none⟩ = false := by
  rcases h.2 with ⟨e1, _⟩ | ⟨g', cap, cur, e1, _, hg, _⟩
  · cases e1
  · cases e1; simp [World.frozen?, hg]
theorem set_two {us v : List Value} {j : Nat} {u0 u1 a b : Value} (h : us.drop j = u0 :: u1 :: v) : (us.set j a).set (j + 1) b = us.take j ++ ([a, b] ++ v) := by
  have hl : j ≤ us.length := by
    rcases Nat.lt_or_ge us.length j with h1 | h1
    · rw [List.drop_of_length_le (by omega)] at h; cases h
    · exact h1
  have hj : (us.take j).length = j := by rw [List.length_take, Nat.min_eq_left hl]
  have e : us = us.take j ++ (u0 :: u1 :: v) := by rw [← h, List.take_append_drop]
  conv => lhs; rw [e]
  rw [List.set_append, if_neg (by omega), hj, Nat.sub_self, List.set_cons_zero, List.set_append, if_neg (by omega), hj, show j + 1 - j = 1 by omega]
  rfl
/-- The cells of files are strings and slices. -/
theorem owns_files_one {w : World} : ∀ {xs : List PFile} {us : List Value} {G : List Nat}, Owns w (xs.flatMap cFiles) us G → ∀ u ∈ us, u.oneCell' = true
  | [], us, G, h => by rw [h.1]; intro u hu; cases hu
  | x :: xs, us, G, h => by
    obtain ⟨u0, v1, F0, H1, rfl, e2, h0, u1, v2, F1, H2, rfl, e4, h1, ho2⟩ := h
    obtain ⟨rfl, rfl⟩ := h0
    obtain ⟨A, n, c, rfl⟩ := Own.shape h1
    intro u hu
    rcases List.mem_cons.1 hu with rfl | hu
    · rfl
    · rcases List.mem_cons.1 hu with rfl | hu
      · rfl
      · exact owns_files_one (xs := xs) ho2 u hu
/-- Such a list, parted at place k. -/
theorem owns_files_at {w : World} {xs : List PFile} {us : List Value} {G : List Nat} (h : Owns w (xs.flatMap cFiles) us G) {k : Nat} (hk : k ≤ xs.length) :
    ∃ G1 G2, G = G1 ++ G2 ∧ Owns w ((xs.take k).flatMap cFiles) (us.take (k * 2)) G1 ∧ Owns w ((xs.drop k).flatMap cFiles) (us.drop (k * 2)) G2 := by
  have e : xs.flatMap cFiles = (xs.take k).flatMap cFiles ++ (xs.drop k).flatMap cFiles := by rw [← List.flatMap_append, List.take_append_drop]
  rw [e] at h
  obtain ⟨us1, us2, G1, G2, rfl, rfl, h1, h2⟩ := Owns.split h
  have hl := Owns.length h1
  have hl2 : us1.length = k * 2 := by
    rw [hl]
    have : ∀ l : List PFile, (l.flatMap cFiles).length = l.length * 2 := fun l => by
      induction l with
      | nil => rfl
      | cons x l ih => rw [List.flatMap_cons, List.length_append, ih, cFiles_len, List.length_cons]; omega
    rw [this, List.length_take, Nat.min_eq_left hk]
  refine ⟨G1, G2, rfl, ?_, ?_⟩
  · rw [← hl2, List.take_left' rfl]; exact h1
  · rw [← hl2, List.drop_left' rfl]; exact h2

set_option maxRecDepth 100000 in
set_option maxHeartbeats 1600000 in
theorem impl_put_any (A A1 : Option Addr) (n c n1 c1 : Nat) (xs : List PFile) (f : PFile) (w : World) (lo hi lo' hi' : Nat) (h : Rep w lo hi (encFiles xs) (.slice A n c)) (h1 : Rep w lo' hi' (encText f.text) (.slice A1 n1 c1)) (hh : hi ≤ w.heap.size) (hh' : hi' ≤ w.heap.size)
    (hsm : smallTree xs) (hft : f.text.length ≤ 1048576) (hasc : ascT xs) :
    Calls Tryz.prog 31 #[.slice A n c, .agg #[.string ⟨f.path.toArray⟩, .slice A1 n1 c1]] w fun e w' => ∃ A n c, e = .returned (.tuple #[.slice A n c, .bool (!hasF xs f.path)]) ∧ Below w.heap.size w w' ∧ Fresh w' w.heap.size w'.heap.size (encFiles (setF xs f)) (.slice A n c) := by
  have hln := Files.n h
  have hn1 := Text.n h1
  subst hln hn1
  have hb0 : Below w.heap.size w (w.alloc (.cells #[.string ⟨f.path.toArray⟩, .slice A1 f.text.length c1] 48)) := (Below.refl _ _).alloc (Nat.le_refl _) _
  have q0 : (w.alloc (.cells #[.string ⟨f.path.toArray⟩, .slice A1 f.text.length c1] 48)).cell? ⟨w.heap.size, 0, none⟩ = some (.string ⟨f.path.toArray⟩) := by simp [go_sem]
  have q1 : (w.alloc (.cells #[.string ⟨f.path.toArray⟩, .slice A1 f.text.length c1] 48)).cell? ⟨w.heap.size, 1, none⟩ = some (.slice A1 f.text.length c1) := by simp [go_sem]
  have hx8 := hsm.1
  have Hasc := Lib.hid hasc
  clear hasc
  go_enter Tryz.func31, Tryz.ntmps31
  go_wp2_with fail
  refine Calls.mono (impl_copyTree_any _ _ _ xs _ lo hi (h.keep hb0 hh) (by simp; omega) hsm) ?_
  rintro e w1 ⟨A2, n2, c2, rfl, hb1, hf1⟩
  have hbw : Below w.heap.size w w1 := hb0.trans (hb1.mono (by simp))
  have hs1 := hb1.size
  simp only [World.size_alloc] at hs1 hf1
  have p0 : w1.cell? ⟨w.heap.size, 0, none⟩ = some (.string ⟨f.path.toArray⟩) := (hb1.cell (p := ⟨w.heap.size, 0, none⟩) (by simp)).trans q0
  have p1 : w1.cell? ⟨w.heap.size, 1, none⟩ = some (.slice A1 f.text.length c1) := (hb1.cell (p := ⟨w.heap.size, 1, none⟩) (by simp)).trans q1
  have hR := hf1.rep
  have hn2 := Files.n hR
  subst hn2
  obtain ⟨hc2, hm2⟩ := Files.cap hR
  obtain ⟨us, G, hown, ho, hnodup, hbd⟩ := hf1.row_of
  have R1 := h1.keep hbw hh'
  have Hown := Lib.hid hown
  have Ho := Lib.hid ho
  clear q0 q1 hb0 hb1 hown ho hf1 h h1 hsm
  go_wp2
  go_loopw [7] (fun i wr => ∃ k : Nat, k ≤ xs.length ∧ i = .int .i64 k ∧ Hid (∀ x ∈ xs.drop k, ltS x.path f.path = false) ∧ Below w1.heap.size w1 wr) (fun i _ => (intOf i).toNat)
  case atStart => exact ⟨xs.length, Nat.le_refl _, rfl, Lib.hid (by rw [List.drop_length]; intro x hx; cases hx), Below.refl _ _⟩
  case round =>
    obtain ⟨k, hk, rfl, hd, hb⟩ := hrel
    have hsz := hb.size
    have d0 : wr.cell? ⟨w.heap.size, 0, none⟩ = some (.string ⟨f.path.toArray⟩) := (hb.cell (p := ⟨w.heap.size, 0, none⟩) (by show w.heap.size < _; omega)).trans p0
    have d1 : wr.cell? ⟨w.heap.size, 1, none⟩ = some (.slice A1 f.text.length c1) := (hb.cell (p := ⟨w.heap.size, 1, none⟩) (by show w.heap.size < _; omega)).trans p1
    by_cases hgo : 0 < k ∧ ∃ x, xs[k - 1]? = some x ∧ ltS x.path f.path = false
    · obtain ⟨hk0, x, hx, hlt⟩ := hgo
      have q6 : (1 : Int) ≤ (k : Int) := by omega
      have q7 : (k : Int) - 1 < (xs.length : Int) := by omega
      have q5 : (0 : Int) < (k : Int) := by omega
      obtain ⟨b3, o3, y, hb3, _, _, hy, A3, n3, c3, f0, f1, r3⟩ := Files.at (hR.keep hb (Nat.le_refl _)) (k := k - 1) (by omega)
      subst hb3
      rw [hx] at hy
      obtain rfl := Option.some.inj hy
      have hd2 : ∀ z ∈ xs.drop (k - 1), ltS z.path f.path = false := by
        have hdr : xs.drop (k - 1) = x :: xs.drop k := by
          rw [List.drop_eq_getElem_cons (by omega)]
          rw [List.getElem?_eq_getElem (by omega)] at hx
          rw [Option.some.inj hx, show k - 1 + 1 = k by omega]
        rw [hdr]
        intro z hz
        rcases List.mem_cons.1 hz with e | m
        · rw [e]; exact hlt
        · exact hd.out z m
      have Hd2 := Lib.hid hd2
      unfold ltS at hlt
      clear hx hd2 hd f1 r3
      go_wp2
      go_quiet (fail)
      go_wp2
      go_roundw
      case rel => exact ⟨k - 1, by omega, by go_num, Hd2, below_drewN hb _⟩
      case measure => simp [intOf]; omega
    · have htake : ∀ x ∈ xs.take k, ltS x.path f.path = true := asc_take_drop Hasc.out hk (fun hk0 x hx => by
        cases hl : ltS x.path f.path with
        | true => rfl
        | false => exact absurd ⟨hk0, x, hx, hl⟩ hgo)
      have Ht := Lib.hid htake
      have hways : decide (0 < k) = false ∨ (decide (0 < k) = true ∧ (1 : Int) ≤ (k : Int) ∧ (k : Int) - 1 < (xs.length : Int) ∧ ∃ (y : Str) (b3 : Nat), A2 = some ⟨b3, 0, none⟩ ∧ wr.cell? ⟨b3, (k - 1) * 2, none⟩ = some (.string ⟨y.toArray⟩) ∧ Op.bytesLess y f.path = true) := by
        by_cases hk0 : 0 < k
        · right
          obtain ⟨b3, o3, y, hb3, _, _, hy, A3, n3, c3, f0, f1, r3⟩ := Files.at (hR.keep hb (Nat.le_refl _)) (k := k - 1) (by omega)
          obtain rfl : o3 = 0 := own_head Hown.out hb3
          rw [Nat.zero_add] at f0
          exact ⟨by simpa using hk0, by omega, by omega, y.path, b3, hb3, f0, htake y (List.mem_of_getElem? (i := k - 1) (by rw [List.getElem?_take, if_pos (by omega)]; exact hy))⟩
        · left; simpa using hk0
      have hcc : ∀ v', (Value.slice A2 xs.length c2) = v' → v' = .slice A2 xs.length c2 := fun _ e => e.symm
      clear hgo htake hcc
      obtain ⟨wo, rfl⟩ : ∃ wo : World, wo = wr := ⟨_, rfl⟩
      rcases hways with q5 | ⟨q5, q6, q7, y, b3, rfl, f0, hlt⟩
      all_goals
        go_wp2
        go_quiet (fail)
        go_upto_region 5 with fail
        refine name_world ?_
        intro wp hwp
        have hbp : Below w1.heap.size w1 wp := by rw [hwp]; exact below_drewN hb _
        have e0 : wp.cell? ⟨w.heap.size, 0, none⟩ = some (.string ⟨f.path.toArray⟩) := by rw [hwp]; exact d0
        have e1 : wp.cell? ⟨w.heap.size, 1, none⟩ = some (.slice A1 f.text.length c1) := by rw [hwp]; exact d1
        have hsp := hbp.size
        have hwlt : w.heap.size < wp.heap.size := by omega
        have Rp := R1.keep hbp (by omega)
        have hhp : hi' ≤ wp.heap.size := by omega
        have E0 := Lib.hid e0
        have E1 := Lib.hid e1
        clear hwp hb hsz d0 d1
        first | clear f0 | skip
        go_cut [8] (fun s8 wx => ∃ (H : Nat) (F : List Nat) (A5 : Option Addr) (c5 : Nat), s8 = .pointer (some ⟨H, 0, none⟩) ∧ wp.heap.size ≤ H ∧ H < wx.heap.size ∧ H ∉ F ∧ F.Nodup ∧ (∀ q ∈ F, wp.heap.size ≤ q ∧ q < wx.heap.size) ∧ Below wp.heap.size wp wx ∧
          wx.cell? ⟨H, 0, none⟩ = some (.string ⟨f.path.toArray⟩) ∧ wx.cell? ⟨H, 1, none⟩ = some (.slice A5 f.text.length c5) ∧ Own wx (encText f.text) (.slice A5 f.text.length c5) F)
        case first =>
          go_region_held3 (fun w' => w'.cell? ⟨w.heap.size, 0, none⟩ = some (.string ⟨f.path.toArray⟩) ∧ w'.cell? ⟨w.heap.size, 1, none⟩ = some (.slice A1 f.text.length c1)) (first | trivial | exact ⟨cw0, cw1⟩ | exact ⟨(Below.cell (B := wp.heap.size) (p := ⟨w.heap.size, 0, none⟩) (by (repeat' (first | with_reducible exact Below.refl _ _ | with_reducible assumption | (with_reducible refine Below.setCell ?_ ?_ _) | (with_reducible refine Below.alloc ?_ ?_ _) | (with_reducible refine below_drewN ?_ _) | (with_reducible refine Below.drew ?_) | omega | (simp; done) | (simp; omega)))) hwlt).trans E0.out, (Below.cell (B := wp.heap.size) (p := ⟨w.heap.size, 1, none⟩) (by (repeat' (first | with_reducible exact Below.refl _ _ | with_reducible assumption | (with_reducible refine Below.setCell ?_ ?_ _) | (with_reducible refine Below.alloc ?_ ?_ _) | (with_reducible refine below_drewN ?_ _) | (with_reducible refine Below.drew ?_) | omega | (simp; done) | (simp; omega)))) hwlt).trans E1.out⟩ | go_keep) (first
            | (go_at_call 58; refine (impl_copyText_any _ _ _ _ _ lo' hi' (Rp.keep (B := wp.heap.size) (by (repeat' (first | with_reducible exact Below.refl _ _ | with_reducible assumption | (with_reducible refine Below.setCell ?_ ?_ _) | (with_reducible refine Below.alloc ?_ ?_ _) | (with_reducible refine below_drewN ?_ _) | (with_reducible refine Below.drew ?_) | omega | (simp; done) | (simp; omega)))) hhp) (by first | exact hhp | (simp; omega)) hft).mono ?_
               rintro e w5 ⟨A5, n5, c5, rfl, hb5, hf5⟩
               have hz5 := hb5.size
               simp at hz5
               have hb5' : Below wp.heap.size wp w5 := Below.trans (by (repeat' (first | with_reducible exact Below.refl _ _ | with_reducible assumption | (with_reducible refine Below.setCell ?_ ?_ _) | (with_reducible refine Below.alloc ?_ ?_ _) | (with_reducible refine below_drewN ?_ _) | (with_reducible refine Below.drew ?_) | omega | (simp; done) | (simp; omega)))) (hb5.mono (by first | omega | (simp; done) | (simp; omega)))
               have cw0 : w5.cell? ⟨w.heap.size, 0, none⟩ = some (.string ⟨f.path.toArray⟩) := (hb5'.cell (p := ⟨w.heap.size, 0, none⟩) hwlt).trans E0.out
               have cw1 : w5.cell? ⟨w.heap.size, 1, none⟩ = some (.slice A1 f.text.length c1) := (hb5'.cell (p := ⟨w.heap.size, 1, none⟩) hwlt).trans E1.out
               first
                 | (have H6 : w5.heap[wp.heap.size]? = some (Obj.cells #[Value.string ⟨#[]⟩, Value.slice none 0 0] 48) := (hb5.block wp.heap.size (by simp)).trans (by first | exact hl_new' _ _ | exact hl_new' wp.drew _)
                    obtain ⟨ch0, ch1, fh0, fh1⟩ := pair_cells H6)
                 | skip))
          all_goals
            go_wp2_with fail
            go_meet
            obtain ⟨F5, hF5o, hF5n, hF5b⟩ := hf5
            have hn5 := Text.n (Own.rep _ _ _ hF5o hF5b)
            subst hn5
            refine ⟨_, F5, A5, c5, rfl, ?_, ?_, ?_, hF5n, ?_, ?_, ?_, ?_, ?_⟩
            · first | exact Nat.le_refl _ | omega | (simp; done) | (simp; omega)
            · first | omega | (simp; done) | (simp; omega)
            · intro hm; have := hF5b _ hm; simp at this; first | omega | done
            · intro q hq; have := hF5b q hq; simp at this ⊢; omega
            · exact (by (repeat' (first | with_reducible exact Below.refl _ _ | with_reducible assumption | (with_reducible refine Below.setCell ?_ ?_ _) | (with_reducible refine Below.alloc ?_ ?_ _) | (with_reducible refine below_drewN ?_ _) | (with_reducible refine Below.drew ?_) | omega | (simp; done) | (simp; omega))))
            · first | exact (pair_set ch0 ch1).1 | simp [go_sem]
            · first | exact (pair_set ch0 ch1).2 | simp [go_sem]
            · refine Own.same _ _ _ hF5o (fun q hq => ?_)
              have hqb := hF5b q hq
              simp at hqb
              first
              | exact Below.heap_alloc _ _ q (by omega)
              | exact (Below.heap_setCell _ _ _ q (by simp; omega)).trans (Below.heap_setCell _ _ _ q (by simp; omega))
        case rest =>
          obtain ⟨wx, rfl⟩ : ∃ wx : World, wx = wc := ⟨_, rfl⟩
          obtain ⟨H, F, A5, c5, rfl, hH0, hH1, hHF, hFn, hFb, hbx, x0, x1, hOf⟩ := hcut
          have hb1x : Below w1.heap.size w1 wx := hbp.trans (hbx.mono hsp)
          have hsx := hbx.size
          have g0 : wx.cell? ⟨w.heap.size, 0, none⟩ = some (.string ⟨f.path.toArray⟩) := (hbx.cell (p := ⟨w.heap.size, 0, none⟩) hwlt).trans E0.out
          have hownx : wx.ownsRow (w.heap.size + 1) 48 2 (.slice _ xs.length c2) xs.length us := ownsRow_same Hown.out (fun q hq => hb1x.block q (Hown.out.lt q (by simpa using hq)).2)
          have hox := Owns.same _ _ _ Ho.out (w' := wx) (fun q hq => hb1x.block q (hbd q (List.mem_append_right _ hq)).2)
          obtain ⟨G1, G2, hG, hO1, hO2⟩ := owns_files_at hox hk
          have hbf : Below w.heap.size w wx := hbw.trans (hb1x.mono (by omega))
          have hone := owns_files_one hox
          have hlen := hownx.1
          by_cases hkl : k < xs.length
          · have hkl' : decide (k < xs.length) = true := by simpa using hkl
            have hkl2 : (k : Int) < (xs.length : Int) := by omega
            have hdr := List.drop_eq_getElem_cons hkl
            have hgx := List.getElem?_eq_getElem hkl
            obtain ⟨y, hy⟩ : ∃ y, y = xs[k] := ⟨_, rfl⟩
            rw [← hy] at hdr hgx
            clear hy
            have hO3 := hO2
            rw [hdr] at hO3
            obtain ⟨u0, v1, F0, H1, e1, e2, h0, u1, v2, F1, H2, e3, e4, h1, ho2⟩ := hO3
            obtain ⟨rfl, rfl⟩ := h0
            obtain ⟨A6, n6, c6, rfl⟩ := Own.shape h1
            subst e3
            have hu0 : us[k * 2]? = some (.string ⟨y.path.toArray⟩) := by have := congrArg (fun l : List Value => l[0]?) e1; simpa using this
            have hu1 : us[k * 2 + 1]? = some (.slice A6 n6 c6) := by have := congrArg (fun l : List Value => l[1]?) e1; simpa using this
            obtain ⟨g, hg, hgl, hgh, m0, m1⟩ := own_two hownx hu0 hu1
            first | subst hg | (simp only [Option.some.injEq, Addr.mk.injEq, and_true] at hg; obtain rfl := hg.symm)
            by_cases heq : y.path = f.path
            · have q8 : (y.path == f.path) = true := by simpa using heq
              have q9 : (f.path == y.path) = true := by simpa using heq.symm
              have hset := setF_here Hasc.out Ht.out hgx heq
              have Hset := Lib.hid hset
              have hfz : ∀ j, wx.frozen? ⟨g, j, none⟩ = false := fun j => own_frozen hownx j
              have hrowS := fun (m : Nat) => (World.ownsRow.stored (w := wx.drewN m) (show (wx.drewN m).ownsRow _ _ _ _ _ _ from hownx) (k * 2) (.string ⟨f.path.toArray⟩))
              have hrowT := fun (m : Nat) => (hrowS m).1.stored (k * 2 + 1) (.slice A5 f.text.length c5)
              have hset2 := set_two (a := .string ⟨f.path.toArray⟩) (b := .slice A5 f.text.length c5) e1
              rw [hset2] at hrowT
              have HrowS := Lib.hid hrowS
              have HrowT := Lib.hid hrowT
              have HO1 := Lib.hid hO1
              have HO3 := Lib.hid ho2
              have HOf := Lib.hid hOf
              have HG := Lib.hid hG
              have He := Lib.hid (show G2 = F1 ++ H2 by rw [e2, e4]; simp)
              clear hset hu0 hu1 hdr hgx hO1 hO2 h1 ho2 hox hownx e1 hlen hrowS hrowT hset2 hOf hG e2 e4
              go_wp2
              go_quiet (fail)
              go_wp2
              go_ret2
              have hgB := (HrowS.out nq).2
              have hgC := (HrowT.out nq).2
              have hb8 : Below w.heap.size w (((wx.drewN nq).setCell ⟨g, k * 2, none⟩ (.string ⟨f.path.toArray⟩)).setCell ⟨g, k * 2 + 1, none⟩ (.slice A5 f.text.length c5)) := by (repeat' (first | with_reducible exact Below.refl _ _ | with_reducible assumption | (with_reducible refine Below.setCell ?_ ?_ _) | (with_reducible refine Below.alloc ?_ ?_ _) | (with_reducible refine below_drewN ?_ _) | (with_reducible refine Below.drew ?_) | omega | (simp; done) | (simp; omega)))
              refine ⟨_, _, _, by rw [Hset.out.2]; rfl, hb8, ?_⟩
              rw [Hset.out.1]
              have hnd2 : ((Value.slice (some ⟨g, 0, none⟩) xs.length c2).ownBlock.toList ++ (G1 ++ H2)).Nodup := hnodup.sublist (by
                rw [HG.out, He.out]
                exact (List.Sublist.refl _).append ((List.Sublist.refl _).append (List.sublist_append_right _ _)))
              have hbd2 : ∀ q ∈ (Value.slice (some ⟨g, 0, none⟩) xs.length c2).ownBlock.toList ++ (G1 ++ H2), w.heap.size + 1 ≤ q ∧ q < w1.heap.size := fun q hq => hbd q (by
                rw [HG.out, He.out]
                simp only [List.mem_append] at hq ⊢
                rcases hq with h | h | h
                · exact .inl h
                · exact .inr (.inl h)
                · exact .inr (.inr (.inr h)))
              have hfin := Fresh.spliced (w := wx.drewN nq) (lo := w.heap.size + 1) (mid := w1.heap.size) (e := 48) (z := 2) (ps2 := (xs.drop (k + 1)).flatMap cFiles) (qs := cFiles f) (hrow := (HrowT.out nq).1)
                (hkeep := fun q hq hne => (hgC.block q (by simpa using hq) hne).trans (hgB.block q hq hne)) (hsz := by simp) (hblk := .inl rfl)
                (show Owns (wx.drewN nq) _ _ G1 from Owns.same _ _ _ HO1.out (fun _ _ => rfl)) (show Owns (wx.drewN nq) _ _ H2 from Owns.same _ _ _ HO3.out (fun _ _ => rfl))
                (show Owns (wx.drewN nq) (cFiles f) [.string ⟨f.path.toArray⟩, .slice A5 f.text.length c5] F from ⟨_, _, [], F, rfl, rfl, ⟨rfl, rfl⟩, _, [], F, [], rfl, by simp, Own.same _ _ _ HOf.out (fun _ _ => rfl), rfl, rfl⟩)
                hnd2 hbd2 hFn (fun q hq => ⟨by have := (hFb q hq).1; omega, (hFb q hq).2⟩) (by show _ ≤ wx.heap.size; omega) (by omega)
              have hcons : (xs.take k).flatMap cFiles ++ (cFiles f ++ (xs.drop (k + 1)).flatMap cFiles) = (xs.take k ++ f :: xs.drop (k + 1)).flatMap cFiles := by simp
              rw [hcons] at hfin
              exact hfin.mono (by omega) (Nat.le_refl _)
            · have q8 : (y.path == f.path) = false := by simpa using heq
              have q9 : (f.path == y.path) = false := by simpa using fun e : f.path = y.path => heq e.symm
              have hset := setF_new (k := k) Hasc.out Ht.out (fun x hx => by
                rw [hgx] at hx
                obtain rfl := Option.some.inj hx
                have hf := hd.out y (by rw [hdr]; exact List.mem_cons_self)
                rcases ltS_cases f.path y.path with c | c | c
                · exact c
                · exact absurd c.symm heq
                · rw [hf] at c; cases c)
              have Hset := Lib.hid hset
              clear hu0 hu1 hdr hgx e1 h1 ho2
              have hrowW : ∀ (m : Nat) (o : Obj), ((wx.drewN m).alloc o).ownsRow (w.heap.size + 1) 48 2 (.slice _ xs.length c2) xs.length us := fun m o => World.ownsRow.alloc (w := wx.drewN m) (show (wx.drewN m).ownsRow _ _ _ _ _ _ from hownx) o
              have hvW : ∀ (m : Nat) (o : Obj), ((wx.drewN m).alloc o).heap[wx.heap.size]? = some o := fun m o => hl_new' (wx.drewN m) o
              have hsW : ∀ (m : Nat) (o : Obj), ((wx.drewN m).alloc o).heap.size = wx.heap.size + 1 := fun m o => by simp
              have hkW : ∀ (m : Nat) (o : Obj) (q : Nat), q < wx.heap.size → ((wx.drewN m).alloc o).heap[q]? = wx.heap[q]? := fun m o q hq => Below.heap_alloc (wx.drewN m) o q hq
              have hvb := fun e => Nat.lt_irrefl _ (hownx.lt wx.heap.size e).2
              have hgb : ∀ q ∈ G1 ++ G2, w.heap.size + 1 ≤ q ∧ q < w1.heap.size := fun q hq => hbd q (List.mem_append_right _ (by rw [hG]; exact hq))
              have HsW := Lib.hid hsW
              have HO1 := Lib.hid hO1
              have HO2 := Lib.hid hO2
              have HOf := Lib.hid hOf
              have HG := Lib.hid hG
              clear hset hox hownx hlen hsW hO1 hO2 hOf
              go_wp2
              go_quiet (fail)
              go_wp2_with (go_at_call 61; refine (insert_own _ _ _ _ _ (w.heap.size + 1) us _ _ _ (hrowW _ _) hk hx8 (hvW _ _) hvb (by rw [HsW.out]; omega) rfl rfl hone).mono ?_)
              rintro e w8 ⟨A8, c8, rfl, hown8, hg8, hat8⟩
              go_wp2
              go_ret2
              have hb8 : Below w.heap.size w w8 := Below.grown (by (repeat' (first | with_reducible exact Below.refl _ _ | with_reducible assumption | (with_reducible refine Below.setCell ?_ ?_ _) | (with_reducible refine Below.alloc ?_ ?_ _) | (with_reducible refine below_drewN ?_ _) | (with_reducible refine Below.drew ?_) | omega | (simp; done) | (simp; omega)))) hg8 (by rw [HsW.out]; omega) (fun q hq => by have := (hrowW nq (Obj.cells #[] 0)).lt q hq; omega)
              refine ⟨_, _, _, by rw [Hset.out.2]; rfl, hb8, ?_⟩
              rw [Hset.out.1]
              have hfin := Fresh.spliced (lo := w.heap.size + 1) (mid := w1.heap.size) (e := 48) (z := 2) (qs := cFiles f) (hkeep := hg8.block) (hsz := hg8.size) (hrow := hown8) (hblk := hat8)
                (Owns.same _ _ _ HO1.out (fun q hq => hkW _ _ q (by have := hgb q (List.mem_append_left _ hq); omega))) (Owns.same _ _ _ HO2.out (fun q hq => hkW _ _ q (by have := hgb q (List.mem_append_right _ hq); omega)))
                (Owns.same _ _ _ (show Owns wx (cFiles f) [.string ⟨f.path.toArray⟩, .slice A5 f.text.length c5] F from ⟨_, _, [], F, rfl, rfl, ⟨rfl, rfl⟩, _, [], F, [], rfl, by simp, HOf.out, rfl, rfl⟩) (fun q hq => hkW _ _ q (hFb q hq).2))
                (by rw [← HG.out]; exact hnodup) (by rw [← HG.out]; exact hbd) hFn (fun q hq => ⟨by have := (hFb q hq).1; omega, by rw [HsW.out]; have := (hFb q hq).2; omega⟩) (by rw [HsW.out]; omega) (by omega)
              have hcons : (xs.take k).flatMap cFiles ++ (cFiles f ++ (xs.drop k).flatMap cFiles) = (xs.take k ++ f :: xs.drop k).flatMap cFiles := by simp
              rw [hcons] at hfin
              exact hfin.mono (by omega) (Nat.le_refl _)
          · obtain rfl : k = xs.length := by omega
            have hset := setF_new (k := xs.length) Hasc.out Ht.out (fun x hx => by rw [List.getElem?_eq_none (Nat.le_refl _)] at hx; cases hx)
            have Hset := Lib.hid hset
            have hrowW : ∀ (m : Nat) (o : Obj), ((wx.drewN m).alloc o).ownsRow (w.heap.size + 1) 48 2 (.slice _ xs.length c2) xs.length us := fun m o => World.ownsRow.alloc (w := wx.drewN m) (show (wx.drewN m).ownsRow _ _ _ _ _ _ from hownx) o
            have hvW : ∀ (m : Nat) (o : Obj), ((wx.drewN m).alloc o).heap[wx.heap.size]? = some o := fun m o => hl_new' (wx.drewN m) o
            have hsW : ∀ (m : Nat) (o : Obj), ((wx.drewN m).alloc o).heap.size = wx.heap.size + 1 := fun m o => by simp
            have hkW : ∀ (m : Nat) (o : Obj) (q : Nat), q < wx.heap.size → ((wx.drewN m).alloc o).heap[q]? = wx.heap[q]? := fun m o q hq => Below.heap_alloc (wx.drewN m) o q hq
            have hvb := fun e => Nat.lt_irrefl _ (hownx.lt wx.heap.size e).2
            have hgb : ∀ q ∈ G1 ++ G2, w.heap.size + 1 ≤ q ∧ q < w1.heap.size := fun q hq => hbd q (List.mem_append_right _ (by rw [hG]; exact hq))
            have HsW := Lib.hid hsW
            have HO1 := Lib.hid hO1
            have HO2 := Lib.hid hO2
            have HOf := Lib.hid hOf
            have HG := Lib.hid hG
            clear hset hox hownx hlen hsW hO1 hO2 hOf
            go_wp2
            go_quiet (fail)
            go_wp2_with (go_at_call 61; refine (insert_own _ _ _ _ _ (w.heap.size + 1) us _ _ _ (hrowW _ _) hk hx8 (hvW _ _) hvb (by rw [HsW.out]; omega) rfl rfl hone).mono ?_)
            rintro e w8 ⟨A8, c8, rfl, hown8, hg8, hat8⟩
            go_wp2
            go_ret2
            have hb8 : Below w.heap.size w w8 := Below.grown (by (repeat' (first | with_reducible exact Below.refl _ _ | with_reducible assumption | (with_reducible refine Below.setCell ?_ ?_ _) | (with_reducible refine Below.alloc ?_ ?_ _) | (with_reducible refine below_drewN ?_ _) | (with_reducible refine Below.drew ?_) | omega | (simp; done) | (simp; omega)))) hg8 (by rw [HsW.out]; omega) (fun q hq => by have := (hrowW nq (Obj.cells #[] 0)).lt q hq; omega)
            refine ⟨_, _, _, by rw [Hset.out.2]; rfl, hb8, ?_⟩
            rw [Hset.out.1]
            have hfin := Fresh.spliced (lo := w.heap.size + 1) (mid := w1.heap.size) (e := 48) (z := 2) (qs := cFiles f) (hkeep := hg8.block) (hsz := hg8.size) (hrow := hown8) (hblk := hat8)
              (Owns.same _ _ _ HO1.out (fun q hq => hkW _ _ q (by have := hgb q (List.mem_append_left _ hq); omega))) (Owns.same _ _ _ HO2.out (fun q hq => hkW _ _ q (by have := hgb q (List.mem_append_right _ hq); omega)))
              (Owns.same _ _ _ (show Owns wx (cFiles f) [.string ⟨f.path.toArray⟩, .slice A5 f.text.length c5] F from ⟨_, _, [], F, rfl, rfl, ⟨rfl, rfl⟩, _, [], F, [], rfl, by simp, HOf.out, rfl, rfl⟩) (fun q hq => hkW _ _ q (hFb q hq).2))
              (by rw [← HG.out]; exact hnodup) (by rw [← HG.out]; exact hbd) hFn (fun q hq => ⟨by have := (hFb q hq).1; omega, by rw [HsW.out]; have := (hFb q hq).2; omega⟩) (by rw [HsW.out]; omega) (by omega)
            have hcons : (xs.take xs.length).flatMap cFiles ++ (cFiles f ++ (xs.drop xs.length).flatMap cFiles) = (xs.take xs.length ++ f :: xs.drop xs.length).flatMap cFiles := by simp
            rw [hcons] at hfin
            exact hfin.mono (by omega) (Nat.le_refl _)
end Go.Proofs.YtmickenajhppoaaGreatDoor
