/- Walk: a patch shifted by another one: the reference's. -/
import Derived.Test.YthjjocimpkjldaaShift
import Derived.Test.YthjjocimpkjldaaBox
import Derived.Deep.DeepCutAuto
import Derived.Deep.RegionLaw
namespace Go.Proofs.Ythjjocimpkjldaa
open Go.RowKit

set_option maxRecDepth 100000 in
set_option maxHeartbeats 100000000 in
theorem spec_l2Shift_any (A1 A2 : Option Addr) (n1 c1 n2 c2 : Nat) (xs ys : List PHunk) (w : World) (lo hi lo' hi' : Nat) (h1 : Rep w lo hi (encHunks xs) (.slice A1 n1 c1)) (h2 : Rep w lo' hi' (encHunks ys) (.slice A2 n2 c2))
    (hh1 : hi ≤ w.heap.size) (hh2 : hi' ≤ w.heap.size) (hx : ∀ x ∈ xs, hunkOk x = true) (hy : ∀ x ∈ ys, hunkOk x = true) (hxl : xs.length ≤ 8) (hyl : ys.length ≤ 8) :
    Calls Try.prog 36 #[.slice A1 n1 c1, .slice A2 n2 c2] w fun e w' => ∃ A n c, e = .returned (.slice A n c) ∧ Below w.heap.size w w' ∧ Fresh w' w.heap.size w'.heap.size (encHunks (ys.map (shifted xs))) (.slice A n c) := by
  have hl1 := Hunks.n h1
  have hl2 := Hunks.n h2
  obtain ⟨hc1, hm1⟩ := Hunks.cap h1
  obtain ⟨hc2, hm2⟩ := Hunks.cap h2
  subst hl1 hl2
  obtain ⟨ih, gi0, gi1, gi2, gi3⟩ := info_parts Try.infoHunk
  obtain ⟨is, si0, si1, si2, si3⟩ := info_parts Try.infoStr
  have hb0 : Below w.heap.size w (w.alloc (.cells #[] 42)) := (Below.refl _ _).alloc (Nat.le_refl _) _
  have hmade : (w.alloc (.cells #[] 42)).ownsRow w.heap.size 42 3 (.slice (some ⟨w.heap.size, 0, none⟩) 0 0) 0 [] := World.ownsRow_made w #[] 0 (Nat.le_refl _) (Nat.zero_le _) rfl
  have hout0 : Fresh (w.alloc (.cells #[] 42)) w.heap.size (w.alloc (.cells #[] 42)).heap.size (encHunks []) (.slice (some ⟨w.heap.size, 0, none⟩) 0 0) := Fresh.of_row hmade (ps := []) ⟨rfl, rfl⟩
  clear hmade
  have Hx := Lib.hid hx
  have Hy := Lib.hid hy
  clear hx hy
  go_enter Try.func36, Try.ntmps36
  go_wp2
  go_loopw [5, 6] (fun t i wr => ∃ (k : Nat) (done : List PHunk) (A' : Option Addr) (n' c' : Nat), k ≤ ys.length ∧ t = .slice A' n' c' ∧ i = .int .i64 k ∧ done.length = k ∧
      Hid (done = (ys.take k).map (shifted xs)) ∧ Fresh wr w.heap.size wr.heap.size (encHunks done) (.slice A' n' c') ∧ Below w.heap.size w wr) (fun _ i _ => ys.length - (intOf i).toNat)
  case atStart => exact ⟨0, [], _, _, _, Nat.zero_le _, rfl, rfl, rfl, Lib.hid rfl, hout0, hb0⟩
  case round =>
    clear hout0 hb0
    obtain ⟨k, done, A', n', c', hk, rfl, rfl, hdk, ht, hf, hb⟩ := hrel
    by_cases hkn : k < ys.length
    · have hkn' : (k : Int) < (ys.length : Int) := by omega
      have hsb := hb.size
      obtain ⟨b1, o1, x, rfl, hblo, hbhi, hyk, B1, m1, e1, B2, m2, e2, d0, d1, r1, d2, r2⟩ := Hunks.at (h2.keep hb hh2) hkn
      obtain ⟨x1, x2, _, _, x3, x4, _⟩ := hunkOk_facts (Hy.out x (List.mem_of_getElem? hyk))
      have hn1 := Text.n r1
      have hn2 := Text.n r2
      subst hn1 hn2
      have hb1lt : b1 < wr.heap.size := by omega
      have hhr : hi' ≤ wr.heap.size := by omega
      have Hyk := Lib.hid hyk
      have Hf := Lib.hid hf
      clear hyk hf
      have D0 := Lib.hid d0
      have D1 := Lib.hid d1
      have D2 := Lib.hid d2
      go_upto_region 5 with fail
      go_cut [7] (fun s7 wx => ∃ (g : Nat) (F : List Nat) (A5 A6 : Option Addr) (c5 c6 : Nat), s7 = .pointer (some ⟨g, 0, none⟩) ∧ wr.heap.size ≤ g ∧ g < wx.heap.size ∧ g ∉ F ∧ F.Nodup ∧ (∀ q ∈ F, wr.heap.size ≤ q ∧ q < wx.heap.size) ∧ Below wr.heap.size wr wx ∧ wx.frozen? ⟨g, 0, none⟩ = false ∧
        wx.cell? ⟨g, 0, none⟩ = some (.int .i64 x.at_) ∧ wx.cell? ⟨g, 1, none⟩ = some (.slice A5 x.less.length c5) ∧ wx.cell? ⟨g, 2, none⟩ = some (.slice A6 x.more.length c6) ∧ Owns wx (cHunks x) [.int .i64 x.at_, .slice A5 x.less.length c5, .slice A6 x.more.length c6] F)
      case first =>
        go_region_held3 (fun w' => w'.cell? ⟨b1, o1 + k * 3, none⟩ = some (.int .i64 x.at_) ∧ w'.cell? ⟨b1, o1 + k * 3 + 1, none⟩ = some (.slice B1 x.less.length e1) ∧ w'.cell? ⟨b1, o1 + k * 3 + 2, none⟩ = some (.slice B2 x.more.length e2)) ((first | trivial | (refine ⟨?_, ?_, ?_⟩ <;> assumption) | exact keep3 (by (repeat' (first | with_reducible exact Below.refl _ _ | with_reducible assumption | (with_reducible refine Below.setCell ?_ ?_ _) | (with_reducible refine Below.alloc ?_ ?_ _) | (with_reducible refine below_drewN ?_ _) | (with_reducible refine Below.drew ?_) | omega | (simp; done) | (simp; omega)))) hb1lt D0.out D1.out D2.out | go_keep))  (first
          | (
          refine step_append_src _ (by rfl) (.tmp 21) (.tmp 26) _ (by rfl) wr.heap.size 9 is _ 1 16 Try.underlying35 si0 si1 si2 si3 (by rfl) (by omega) (.slice (some ⟨_, 0, none⟩) 0 0) 0 [] (by rfl) (by refine ownsRow_empty (by first | omega | (simp; done) | (simp; omega)) ?_; (repeat (first | (with_reducible assumption) | (with_reducible exact hl_new _ _ _ (by first | omega | (simp; done) | (simp; omega))) | (with_reducible refine hl_drew ?_) | (with_reducible refine hl_old _ ?_)))) B1 x.less.length e1 _ (by rfl) (Text.src (r1.keep (B := wr.heap.size) (by (repeat' (first | with_reducible exact Below.refl _ _ | with_reducible assumption | (with_reducible refine Below.setCell ?_ ?_ _) | (with_reducible refine Below.alloc ?_ ?_ _) | (with_reducible refine below_drewN ?_ _) | (with_reducible refine Below.drew ?_) | omega | (simp; done) | (simp; omega)))) hhr)) (texts_one _) (by unfold maxLen; omega) (by omega) (by first | omega | (simp; done) | (simp; omega)) ?_
          intro A5 c5 w5 hown5 hg5 hat5
          rw [Nat.zero_add] at hown5 hat5
          have hb5 : Below wr.heap.size wr w5 := Below.grown (by (repeat' (first | with_reducible exact Below.refl _ _ | with_reducible assumption | (with_reducible refine Below.setCell ?_ ?_ _) | (with_reducible refine Below.alloc ?_ ?_ _) | (with_reducible refine below_drewN ?_ _) | (with_reducible refine Below.drew ?_) | omega | (simp; done) | (simp; omega)))) hg5 (by first | omega | (simp; done) | (simp; omega)) (fun g hg => by simp [Value.ownBlock] at hg; omega)
          have hs5 : wr.heap.size ≤ w5.heap.size := hb5.size
          have hz5 := hg5.size
          try simp at hz5
          have hlt5 := hown5.lt
          have k5 := blk_kept hg5
          have cc0w5 : w5.cell? ⟨b1, o1 + k * 3, none⟩ = some (.int .i64 x.at_) := (hb5.cell (p := ⟨b1, o1 + k * 3, none⟩) hb1lt).trans d0
          have cc1w5 : w5.cell? ⟨b1, o1 + k * 3 + 1, none⟩ = some (.slice B1 x.less.length e1) := (hb5.cell (p := ⟨b1, o1 + k * 3 + 1, none⟩) hb1lt).trans d1
          have cc2w5 : w5.cell? ⟨b1, o1 + k * 3 + 2, none⟩ = some (.slice B2 x.more.length e2) := (hb5.cell (p := ⟨b1, o1 + k * 3 + 2, none⟩) hb1lt).trans d2)
          | (
          refine step_append_src _ (by rfl) (.tmp 28) (.tmp 33) _ (by rfl) wr.heap.size 9 is _ 1 16 Try.underlying35 si0 si1 si2 si3 (by rfl) (by omega) (.slice (some ⟨_, 0, none⟩) 0 0) 0 [] (by rfl) (by refine ownsRow_empty (by first | omega | (simp; done) | (simp; omega)) ?_; (repeat (first | (with_reducible assumption) | (with_reducible exact hl_new _ _ _ (by first | omega | (simp; done) | (simp; omega))) | (with_reducible refine hl_drew ?_) | (with_reducible refine hl_old _ ?_) | (refine k5 _ _ ?_ (by first | (simp [Value.ownBlock]; done) | (simp [Value.ownBlock]; omega)))))) B2 x.more.length e2 _ (by rfl) (Text.src (r2.keep (B := wr.heap.size) (by (repeat' (first | with_reducible exact Below.refl _ _ | with_reducible assumption | (with_reducible refine Below.setCell ?_ ?_ _) | (with_reducible refine Below.alloc ?_ ?_ _) | (with_reducible refine below_drewN ?_ _) | (with_reducible refine Below.drew ?_) | omega | (simp; done) | (simp; omega)))) hhr)) (texts_one _) (by unfold maxLen; omega) (by omega) (by first | omega | (simp; done) | (simp; omega)) ?_
          intro A6 c6 w6 hown6 hg6 hat6
          rw [Nat.zero_add] at hown6 hat6
          have hb6 : Below wr.heap.size wr w6 := Below.grown (by (repeat' (first | with_reducible exact Below.refl _ _ | with_reducible assumption | (with_reducible refine Below.setCell ?_ ?_ _) | (with_reducible refine Below.alloc ?_ ?_ _) | (with_reducible refine below_drewN ?_ _) | (with_reducible refine Below.drew ?_) | omega | (simp; done) | (simp; omega)))) hg6 (by first | omega | (simp; done) | (simp; omega)) (fun g hg => by simp [Value.ownBlock] at hg; omega)
          have hs6 : wr.heap.size ≤ w6.heap.size := hb6.size
          have hz6 := hg6.size
          try simp at hz6
          have hlt6 := hown6.lt
          have k6 := blk_kept hg6
          first
          | (have H6 : w6.heap[wr.heap.size]? = some (Obj.cells #[Value.int IntKind.i64 0, Value.slice none 0 0, Value.slice none 0 0] 42) := by (repeat (first | (with_reducible assumption) | (with_reducible exact hl_new _ _ _ (by first | omega | (simp; done) | (simp; omega))) | (with_reducible refine hl_drew ?_) | (with_reducible refine hl_old _ ?_) | (refine k6 _ _ ?_ (by first | (simp [Value.ownBlock]; done) | (simp [Value.ownBlock]; omega))) | (refine k5 _ _ ?_ (by first | (simp [Value.ownBlock]; done) | (simp [Value.ownBlock]; omega))))))
          | (have H6 : w6.heap[wr.heap.size + 1]? = some (Obj.cells #[Value.int IntKind.i64 0, Value.slice none 0 0, Value.slice none 0 0] 42) := by (repeat (first | (with_reducible assumption) | (with_reducible exact hl_new _ _ _ (by first | omega | (simp; done) | (simp; omega))) | (with_reducible refine hl_drew ?_) | (with_reducible refine hl_old _ ?_) | (refine k6 _ _ ?_ (by first | (simp [Value.ownBlock]; done) | (simp [Value.ownBlock]; omega))) | (refine k5 _ _ ?_ (by first | (simp [Value.ownBlock]; done) | (simp [Value.ownBlock]; omega))))))
          | (have H6 : w6.heap[wr.heap.size + 2]? = some (Obj.cells #[Value.int IntKind.i64 0, Value.slice none 0 0, Value.slice none 0 0] 42) := by (repeat (first | (with_reducible assumption) | (with_reducible exact hl_new _ _ _ (by first | omega | (simp; done) | (simp; omega))) | (with_reducible refine hl_drew ?_) | (with_reducible refine hl_old _ ?_) | (refine k6 _ _ ?_ (by first | (simp [Value.ownBlock]; done) | (simp [Value.ownBlock]; omega))) | (refine k5 _ _ ?_ (by first | (simp [Value.ownBlock]; done) | (simp [Value.ownBlock]; omega))))))
          | (have H6 : w6.heap[w5.heap.size]? = some (Obj.cells #[Value.int IntKind.i64 0, Value.slice none 0 0, Value.slice none 0 0] 42) := by (repeat (first | (with_reducible assumption) | (with_reducible exact hl_new _ _ _ (by first | omega | (simp; done) | (simp; omega))) | (with_reducible refine hl_drew ?_) | (with_reducible refine hl_old _ ?_) | (refine k6 _ _ ?_ (by first | (simp [Value.ownBlock]; done) | (simp [Value.ownBlock]; omega))) | (refine k5 _ _ ?_ (by first | (simp [Value.ownBlock]; done) | (simp [Value.ownBlock]; omega))))))
          | (have H6 : w6.heap[w5.heap.size + 1]? = some (Obj.cells #[Value.int IntKind.i64 0, Value.slice none 0 0, Value.slice none 0 0] 42) := by (repeat (first | (with_reducible assumption) | (with_reducible exact hl_new _ _ _ (by first | omega | (simp; done) | (simp; omega))) | (with_reducible refine hl_drew ?_) | (with_reducible refine hl_old _ ?_) | (refine k6 _ _ ?_ (by first | (simp [Value.ownBlock]; done) | (simp [Value.ownBlock]; omega))) | (refine k5 _ _ ?_ (by first | (simp [Value.ownBlock]; done) | (simp [Value.ownBlock]; omega))))))
          | skip
          first | (rename w6.heap[_]? = some (Obj.cells #[Value.int IntKind.i64 0, Value.slice none 0 0, Value.slice none 0 0] 42) => H7; obtain ⟨ch0, ch1, ch2, fh0, fh1, fh2⟩ := box_cells H7) | skip
          have cc0w6 : w6.cell? ⟨b1, o1 + k * 3, none⟩ = some (.int .i64 x.at_) := (hb6.cell (p := ⟨b1, o1 + k * 3, none⟩) hb1lt).trans d0
          have cc1w6 : w6.cell? ⟨b1, o1 + k * 3 + 1, none⟩ = some (.slice B1 x.less.length e1) := (hb6.cell (p := ⟨b1, o1 + k * 3 + 1, none⟩) hb1lt).trans d1
          have cc2w6 : w6.cell? ⟨b1, o1 + k * 3 + 2, none⟩ = some (.slice B2 x.more.length e2) := (hb6.cell (p := ⟨b1, o1 + k * 3 + 2, none⟩) hb1lt).trans d2))
        all_goals
          go_wp2_with fail
          go_meet
          have hX5 : w6.ownsRow wr.heap.size 9 1 (.slice A5 x.less.length c5) x.less.length (x.less.map fun s => .string ⟨s.toArray⟩) := by
            first
            | exact hown5.kept hg6 (apart_row (fun g hg e => by have hl := hlt5 g hg; rw [hg] at hat5; simp [Value.ownBlock] at hat5 e; omega))
            | exact (hown5.alloc _).kept hg6 (apart_row (fun g hg e => by have hl := hlt5 g hg; rw [hg] at hat5; simp [Value.ownBlock] at hat5 e; omega))
            | exact ((hown5.alloc _).alloc _).kept hg6 (apart_row (fun g hg e => by have hl := hlt5 g hg; rw [hg] at hat5; simp [Value.ownBlock] at hat5 e; omega))
          have hne : ∀ g, (Value.slice A5 x.less.length c5).ownBlock = some g → (Value.slice A6 x.more.length c6).ownBlock ≠ some g := by
            intro g hg hg'
            have hl := (hlt5 g hg).2
            rw [hg] at hat5
            rw [hg'] at hat6
            simp [Value.ownBlock] at hat5 hat6
            omega
          refine box_rel hX5 hown6 hne ?_ ?_ ?_ ?_ ?_ ?_ ?_ ?_ ?_ ?_ ?_
          · intro g hg
            have hl := hlt5 g hg
            rw [hg] at hat5
            simp [Value.ownBlock] at hat5
            omega
          · intro g hg
            have hl := hlt6 g hg
            rw [hg] at hat6
            simp [Value.ownBlock] at hat6
            omega
          · intro q hq hqh
            first
            | exact Below.heap_alloc _ _ q hq
            | exact (Below.heap_setCell _ _ _ q hqh).trans ((Below.heap_setCell _ _ _ q hqh).trans (Below.heap_setCell _ _ _ q hqh))
          · first | omega | (simp; done) | (simp; omega)
          · first | omega | (simp; done) | (simp; omega)
          · first | omega | (simp; done) | (simp; omega)
          · exact (by (repeat' (first | with_reducible exact Below.refl _ _ | with_reducible assumption | (with_reducible refine Below.setCell ?_ ?_ _) | (with_reducible refine Below.alloc ?_ ?_ _) | (with_reducible refine below_drewN ?_ _) | (with_reducible refine Below.drew ?_) | omega | (simp; done) | (simp; omega))))
          · first | (simp [go_sem]; done) | (simpa [go_sem] using fh0)
          · first | exact (box_set ch0 ch1 ch2).1 | simp [go_sem]
          · first | exact (box_set ch0 ch1 ch2).2.1 | simp [go_sem]
          · first | exact (box_set ch0 ch1 ch2).2.2 | simp [go_sem]
      case rest =>
        obtain ⟨g, F, A5, A6, c5, c6, rfl, hg0, hg1, hgF, hFn, hFb, hbc, kz, k0, k1, k2, hO⟩ := hcut
        obtain ⟨_, _, F1, F2, hu, hFe, hi, hO2⟩ := hO
        obtain ⟨rfl, rfl⟩ := List.cons.inj hu
        have hF1 : F1 = [] := by cases hi; rename_i e; exact e
        subst hF1
        simp only [List.nil_append] at hFe
        subst hFe
        clear hu hi d0 d1 d2 r1 r2
        obtain ⟨wo, rfl⟩ : ∃ wo : World, wo = wr := ⟨_, rfl⟩
        go_wp2
        go_loopw [8] (fun i wq => ∃ (l : Nat) (s : Int), l ≤ xs.length ∧ i = .int .i64 l ∧ Hid (s = shiftBy (xs.take l) x.at_ x.at_) ∧ x.at_ - 10 * l ≤ s ∧ s ≤ x.at_ + 10 * l ∧ wq.frozen? ⟨g, 0, none⟩ = false ∧ wq.cell? ⟨g, 0, none⟩ = some (.int .i64 s) ∧ wq.cell? ⟨g, 1, none⟩ = some (.slice A5 x.less.length c5) ∧ wq.cell? ⟨g, 2, none⟩ = some (.slice A6 x.more.length c6) ∧
          Owns wq [encText x.less, encText x.more] [.slice A5 x.less.length c5, .slice A6 x.more.length c6] F ∧ Below wo.heap.size wo wq ∧ g < wq.heap.size ∧ (∀ q ∈ F, wo.heap.size ≤ q ∧ q < wq.heap.size)) (fun i _ => xs.length - (intOf i).toNat)
        case atStart => exact ⟨0, x.at_, Nat.zero_le _, rfl, Lib.hid rfl, by omega, by omega, kz, k0, k1, k2, hO2, hbc, hg1, hFb⟩
        case round =>
          clear kz k0 k1 k2 hO2 hbc hg1 hFb
          obtain ⟨l, s, hl, rfl, hsh, hs0, hs1, kz, k0, k1, k2, hO2, hbq, hg1, hFb⟩ := hrel
          obtain ⟨wq, rfl⟩ : ∃ wq : World, wq = wr := ⟨_, rfl⟩
          have hsq := hbq.size
          by_cases hln : l < xs.length
          · have hln' : (l : Int) < (xs.length : Int) := by omega
            obtain ⟨b2, o2, y, rfl, hb2lo, hb2hi, hyl2, B3, m3, e3, B4, m4, e4, f0, f1, r3, f2, r4⟩ := Hunks.at ((h1.keep hb hh1).keep hbq (by omega)) hln
            obtain ⟨y1, y2, _, _, y3, y4, _⟩ := hunkOk_facts (Hx.out y (List.mem_of_getElem? hyl2))
            have hn3 := Text.n r3
            have hn4 := Text.n r4
            subst hn3 hn4
            have d0 := (hbq.cell (p := ⟨b1, o1 + k * 3, none⟩) hb1lt).trans D0.out
            have hstep : xs.take (l + 1) = xs.take l ++ [y] := by rw [List.take_add_one, hyl2]; rfl
            have hnext : shiftBy (xs.take (l + 1)) x.at_ x.at_ = if y.at_ < x.at_ then s + ((y.more.length : Int) - (y.less.length : Int)) else s := by
              rw [hstep, hsh.out]; unfold shiftBy; rw [List.foldl_append]; rfl
            have Hnext := Lib.hid hnext
            have hv1 : IntKind.i64.wrap (s + (y.more.length : Int)) = s + (y.more.length : Int) := by rw [IntKind.wrap_i64]; omega
            have hv2 : IntKind.i64.wrap (s + (y.more.length : Int) - (y.less.length : Int)) = s + (y.more.length : Int) - (y.less.length : Int) := by rw [IntKind.wrap_i64]; omega
            clear hstep hnext hyl2 r3 r4
            by_cases hlt : y.at_ < x.at_
            · go_wp2
              go_quiet (fail)
              go_wp2
              go_region_law (fail)
              all_goals
                go_wp2
                go_roundw
                case rel => exact ⟨l + 1, s + ((y.more.length : Int) - (y.less.length : Int)), by omega, by go_num, Lib.hid (by rw [Hnext.out, if_pos hlt]), by omega, by omega, by simpa using kz, (by rw [show s + ((y.more.length : Int) - (y.less.length : Int)) = s + (y.more.length : Int) - (y.less.length : Int) by omega]; exact World.cell?_setCell_same _ _ _ (show World.cell? _ _ = some (Value.int .i64 s) from k0)), by simpa [go_sem] using k1, by simpa [go_sem] using k2, Owns.same _ _ _ hO2 (fun q hq => Below.heap_setCell _ _ _ q (fun e => hgF (by rw [← show q = g from e]; exact hq))), by (repeat' (first | with_reducible exact Below.refl _ _ | with_reducible assumption | (with_reducible refine Below.setCell ?_ ?_ _) | (with_reducible refine Below.alloc ?_ ?_ _) | (with_reducible refine below_drewN ?_ _) | (with_reducible refine Below.drew ?_) | omega | (simp; done) | (simp; omega))), by simpa using hg1, fun q hq => by simpa using hFb q hq⟩
                case measure => simp [intOf]; omega
            · go_wp2
              go_quiet (fail)
              go_wp2
              go_roundw
              case rel => exact ⟨l + 1, s, by omega, by go_num, Lib.hid (by rw [Hnext.out, if_neg (by omega)]), by omega, by omega, by simpa using kz, by simpa using k0, by simpa using k1, by simpa using k2, Owns.same _ _ _ hO2 (fun _ _ => rfl), below_drewN hbq _, hg1, fun q hq => hFb q hq⟩
              case measure => simp [intOf]; omega
          · obtain rfl : l = xs.length := by omega
            rw [List.take_length] at hsh
            have hf := Hf.out
            have hnd := Hunks.n hf.rep
            subst hnd
            obtain ⟨us, G, hown, ho, hnodup, hbd⟩ := (hf.keep hbq (Nat.le_refl _)).row_of
            have hdl : done.length ≤ 8 := by omega
            have hwA : w.heap.size ≤ wo.heap.size := hsb
            have Hdk := Lib.hid hdk
            have hd8 : done.length = k → True := fun _ => trivial
            clear hdk hd8 hf
            go_wp2_with (at_builtin; refine wpList_append_src _ rfl (.tmp 70) (.tmp 72) _ rfl w.heap.size 42 ih _ 3 56 Try.underlying23 gi0 gi1 gi2 gi3 rfl (by omega) _ done.length us rfl (hown.alloc _) _ 1 1 [.int .i64 s, .slice A5 x.less.length c5, .slice A6 x.more.length c6] rfl (Src.lit wq 42 [.int .i64 s, .slice A5 x.less.length c5, .slice A6 x.more.length c6] 3 1 rfl) ?e2 ?e3 ?e4 ?e5 ?_)
            case e2 => intro u hu; simp at hu; rcases hu with rfl | rfl | rfl <;> rfl
            case e3 => unfold maxLen; omega
            case e4 => omega
            case e5 => simp; omega
            intro A7 c7 w7 hown7 hg7 hat7
            have hbX := (hb.trans (hbq.mono hsb)).alloc (by omega) (Obj.cells #[.int .i64 s, .slice A5 x.less.length c5, .slice A6 x.more.length c6] 42)
            have hb7 := hbX.grown hg7 (by simp; omega) (fun g' hg' => (hown.lt g' hg').1)
            have hnew : FreshL (wq.alloc (Obj.cells #[.int .i64 s, .slice A5 x.less.length c5, .slice A6 x.more.length c6] 42)) wo.heap.size wq.heap.size (cHunks (⟨s, x.less, x.more⟩ : PHunk)) [.int .i64 s, .slice A5 x.less.length c5, .slice A6 x.more.length c6] :=
              FreshL.same (FreshL.plain ⟨rfl, rfl⟩ ⟨F, hO2, hFn, hFb⟩) ((Same.refl _ _ _).alloc (Nat.le_refl _) _)
            have ho7 := Owns.same _ _ _ ho (w' := wq.alloc (Obj.cells #[.int .i64 s, .slice A5 x.less.length c5, .slice A6 x.more.length c6] 42)) (fun zz hq => Below.heap_alloc wq _ zz (by have := hbd zz (List.mem_append_right _ hq); omega))
            have hfin := Fresh.grew ho7 hnodup hbd hnew hown7 hg7 (by simpa using hat7) hsq (by simp) hwA
            have hcons : done.flatMap cHunks ++ cHunks (⟨s, x.less, x.more⟩ : PHunk) = (done ++ [(⟨s, x.less, x.more⟩ : PHunk)]).flatMap cHunks := by simp
            rw [hcons] at hfin
            have Hf7 := Lib.hid hfin
            have hstep : done ++ [(⟨s, x.less, x.more⟩ : PHunk)] = (ys.take (k + 1)).map (shifted xs) := by
              rw [List.take_add_one, Hyk.out, List.map_append, ← ht.out, hsh.out]
              rfl
            have Hstep := Lib.hid hstep
            clear hfin hcons hnew hown7 hg7 hat7 hbX ho7 ho hown hO2 hstep kz k0 k1 k2
            go_wp2
            go_roundw
            case rel => exact ⟨k + 1, done ++ [(⟨s, x.less, x.more⟩ : PHunk)], _, _, _, by omega, rfl, by go_num, by simp [Hdk.out], Hstep, Hf7.out, hb7⟩
            case measure => simp [intOf]; omega
    · obtain rfl : k = ys.length := by omega
      go_wp2
      go_ret
      have ht := ht.out
      rw [List.take_length] at ht
      subst ht
      exact ⟨_, _, _, rfl, hb, hf⟩
end Go.Proofs.Ythjjocimpkjldaa
