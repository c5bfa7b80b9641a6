/- Walks: a patch shifted by another one: the program's. -/
import Derived.Test.YthjjocimpkjldaaBackFn
namespace Go.Proofs.Ythjjocimpkjldaa
open Go.RowKit

def shiftBy (a : List PHunk) (y s : Int) : Int := a.foldl (fun s x => if x.at_ < y then s + ((x.more.length : Int) - (x.less.length : Int)) else s) s
def shifted (a : List PHunk) (y : PHunk) : PHunk := ⟨shiftBy a y.at_ y.at_, y.less, y.more⟩
def patchShift (a b : List PHunk) : List PHunk := if patchFree a b then b.map (shifted a) else []
theorem bnd_PatchShift (a b : List PHunk) : cntHunks (patchShift a b) ≤ 168 := by
  unfold patchShift
  split
  · rename_i h
    simp [patchFree] at h
    have h1 := cntHunks_ok (hunkOk_of_patchOk h.2.1)
    have h2 := patchOk_len h.2.1
    have e : cntHunks (b.map (shifted a)) = cntHunks b := by
      unfold cntHunks
      rw [List.map_map]
      rfl
    omega
  · simp [cntHunks]

set_option maxRecDepth 100000 in
set_option maxHeartbeats 3200000 in
theorem impl_PatchShift_any (A1 A2 : Option Addr) (n1 c1 n2 c2 : Nat) (xs ys : List PHunk) (w : World) (lo hi lo' hi' : Nat) (h1 : Rep w lo hi (encHunks xs) (.slice A1 n1 c1)) (h2 : Rep w lo' hi' (encHunks ys) (.slice A2 n2 c2))
    (hh1 : hi ≤ w.heap.size) (hh2 : hi' ≤ w.heap.size) :
    Calls Try.prog 15 #[.slice A1 n1 c1, .slice A2 n2 c2] w fun e w' => ∃ A n c, e = .returned (.slice A n c) ∧ Below w.heap.size w w' ∧ Fresh w' w.heap.size w'.heap.size (encHunks (patchShift xs ys)) (.slice A n c) := by
  have hl1 := Hunks.n h1
  have hl2 := Hunks.n h2
  obtain ⟨hc1, hm1⟩ := Hunks.cap h1
  obtain ⟨hc2, hm2⟩ := Hunks.cap h2
  subst hl1 hl2
  obtain ⟨ih, gi0, gi1, gi2, gi3⟩ := info_parts Try.infoHunk
  go_enter Try.func15, Try.ntmps15
  go_wp2_with fail
  refine Calls.mono (impl_PatchFree_any _ _ _ _ _ _ xs ys w lo hi lo' hi' h1 h2 hh1 hh2) ?_
  rintro e wz ⟨rfl, hbz⟩
  cases t0 : patchFree xs ys
  · go_wp2
    go_ret
    exact ⟨_, _, _, rfl, hbz, by rw [patchShift, t0]; exact Fresh.nil _ _ _ _ _⟩
  have hpf := t0
  simp only [patchFree, Bool.and_eq_true] at hpf
  have hx := hunkOk_of_patchOk hpf.1
  have hy := hunkOk_of_patchOk hpf.2.1
  have hxl := patchOk_len hpf.1
  have hyl := patchOk_len hpf.2.1
  have hres : patchShift xs ys = ys.map (shifted xs) := by rw [patchShift, t0]; rfl
  have Hres := Lib.hid hres
  have hwz := hbz.size
  replace h1 := h1.keep hbz hh1
  replace h2 := h2.keep hbz hh2
  replace hh1 := Nat.le_trans hh1 hwz
  replace hh2 := Nat.le_trans hh2 hwz
  have Hz := Lib.hid hbz
  clear hres hpf hbz
  go_wp2
  go_loopw [5, 17] (fun t i wr => ∃ (k : Nat) (done : List PHunk) (A' : Option Addr) (n' c' : Nat), k ≤ ys.length ∧ t = .slice A' n' c' ∧ i = .int .i64 k ∧ done.length = k ∧
      Hid (done = (ys.take k).map (shifted xs)) ∧ Fresh wr wz.heap.size wr.heap.size (encHunks done) (.slice A' n' c') ∧ Below wz.heap.size wz wr) (fun _ i _ => ys.length - (intOf i).toNat)
  case atStart => exact ⟨0, [], _, _, _, Nat.zero_le _, rfl, rfl, rfl, Lib.hid rfl, Fresh.nil _ _ _ _ _, Below.refl _ _⟩
  case round =>
    obtain ⟨k, done, A', n', c', hk, rfl, rfl, hdk, ht, hf, hb⟩ := hrel
    by_cases hkn : k < ys.length
    · have hkn' : (k : Int) < (ys.length : Int) := by omega
      have hsz := hb.size
      obtain ⟨wo, rfl⟩ : ∃ wo : World, wo = wr := ⟨_, rfl⟩
      obtain ⟨b1, o1, y, rfl, hblo, hbhi, hyk, B1, m1, e1, B2, m2, e2, d0, d1, r1, d2, r2⟩ := Hunks.at (h2.keep hb hh2) hkn
      obtain ⟨y1, y2, _, _, y3, y4, _⟩ := hunkOk_facts (hy y (List.mem_of_getElem? hyk))
      have hstep : (ys.take (k + 1)).map (shifted xs) = (ys.take k).map (shifted xs) ++ [shifted xs y] := by rw [List.take_add_one, hyk]; simp
      have Hstep := Lib.hid hstep
      have hn1 := Text.n r1
      have hn2 := Text.n r2
      subst hn1 hn2
      clear hstep hyk
      go_wp2
      refine name_world ?_
      intro W hW
      have hbr : Below wo.heap.size wo W := by rw [hW]; exact (Below.refl _ _).alloc (Nat.le_refl _) _
      have hWs : wo.heap.size < W.heap.size := by rw [hW]; simp [go_sem]
      have p0 : W.cell? ⟨wo.heap.size, 0, none⟩ = some (.int .i64 y.at_) := by rw [hW]; simp [go_sem]
      have p1 : W.cell? ⟨wo.heap.size, 1, none⟩ = some (.slice B1 y.less.length e1) := by rw [hW]; simp [go_sem]
      have p2 : W.cell? ⟨wo.heap.size, 2, none⟩ = some (.slice B2 y.more.length e2) := by rw [hW]; simp [go_sem]
      have R1 := r1.keep hbr (Nat.le_trans hh2 hsz)
      have R2 := r2.keep hbr (Nat.le_trans hh2 hsz)
      clear hW d0 d1 d2 r1 r2
      go_loopw [8, 25] (fun a i wq => ∃ (l : Nat) (s : Int), l ≤ xs.length ∧ a = .int .i64 s ∧ i = .int .i64 l ∧ -(10 * (l : Int)) ≤ s ∧ s ≤ 10 + 10 * l ∧ Hid (shiftBy (xs.drop l) y.at_ s = shiftBy xs y.at_ y.at_) ∧ Below W.heap.size W wq) (fun _ i _ => xs.length - (intOf i).toNat)
      case atStart => exact ⟨0, _, Nat.zero_le _, rfl, rfl, by omega, by omega, Lib.hid rfl, Below.refl _ _⟩
      case round =>
        obtain ⟨l, s, hl, rfl, rfl, hs0, hs1, ht2, hb2⟩ := hrel
        obtain ⟨wq, rfl⟩ : ∃ wq : World, wq = wr := ⟨_, rfl⟩
        have hb3 : Below wo.heap.size wo wq := hbr.trans (hb2.mono hbr.size)
        have hb4 : Below wz.heap.size wz wq := hb.trans (hb3.mono hsz)
        have hsz2 := hb2.size
        have g0 := (hb2.cell hWs).trans p0
        have g1 := (hb2.cell hWs).trans p1
        have g2 := (hb2.cell hWs).trans p2
        by_cases hln : l < xs.length
        · have hln' : (l : Int) < (xs.length : Int) := by omega
          obtain ⟨b2, o2, x, rfl, _, _, hxk, B3, m3, e3, B4, m4, e4, f0, f1, r3, f2, r4⟩ := Hunks.at (h1.keep hb4 hh1) hln
          obtain ⟨x1, x2, _, _, x3, x4, _⟩ := hunkOk_facts (hx x (List.mem_of_getElem? hxk))
          have hn3 := Text.n r3
          have hn4 := Text.n r4
          subst hn3 hn4
          have hst := ht2.out
          rw [drop_cons hxk, shiftBy, List.foldl_cons] at hst
          have hw0 : wo.heap.size < wq.heap.size := by omega
          by_cases hlt : x.at_ < y.at_
          · rw [if_pos hlt] at hst
            have Hst := Lib.hid hst
            clear hst hxk ht2
            go_wp2
            go_roundw
            case rel => exact ⟨l + 1, _, by omega, by go_num, by go_num, by omega, by omega, Hst, hb2.trans (Below.mono (B := wq.heap.size) (by (repeat' (first | with_reducible exact Below.refl _ _ | with_reducible assumption | (with_reducible refine Below.setCell ?_ ?_ _) | (with_reducible refine Below.alloc ?_ ?_ _) | (with_reducible refine below_drewN ?_ _) | (with_reducible refine Below.drew ?_) | omega | (simp; done) | (simp; omega)))) hsz2)⟩
            case measure => simp [intOf]; omega
          · rw [if_neg hlt] at hst
            have Hst := Lib.hid hst
            clear hst hxk ht2
            go_wp2
            go_roundw
            case rel => exact ⟨l + 1, s, by omega, rfl, by go_num, by omega, by omega, Hst, hb2.trans (Below.mono (B := wq.heap.size) (by (repeat' (first | with_reducible exact Below.refl _ _ | with_reducible assumption | (with_reducible refine Below.setCell ?_ ?_ _) | (with_reducible refine Below.alloc ?_ ?_ _) | (with_reducible refine below_drewN ?_ _) | (with_reducible refine Below.drew ?_) | omega | (simp; done) | (simp; omega)))) hsz2)⟩
            case measure => simp [intOf]; omega
        · obtain rfl : l = xs.length := by omega
          have hat := ht2.out
          rw [List.drop_of_length_le (Nat.le_refl _)] at hat
          have hat' : s = shiftBy xs y.at_ y.at_ := hat
          have Hat := Lib.hid hat'
          have R3 := R1.keep hb2 (Nat.le_trans hh2 (Nat.le_trans hsz hbr.size))
          have R4 := R2.keep hb2 (Nat.le_trans hh2 (Nat.le_trans hsz hbr.size))
          have hWlt : wo.heap.size < wq.heap.size := by omega
          have hhq : hi' ≤ wq.heap.size := by omega
          have hnd := Hunks.n hf.rep
          subst hnd
          obtain ⟨us, G, hown, ho, hnodup, hbd0⟩ := hf.row_of
          have hbd : ∀ q ∈ (Value.slice A' done.length c').ownBlock.toList ++ G, wz.heap.size ≤ q ∧ q < wq.heap.size := fun q hq => by have := hbd0 q hq; omega
          have hrowne : some wo.heap.size ≠ (Value.slice A' done.length c').ownBlock := fun e => by
            have := (hbd0 wo.heap.size (List.mem_append_left _ (by rw [← e]; simp))).2
            omega
          have hownW := ownsRow_same (w' := wq) hown (fun q hq => hb3.block q (hown.lt q (by simpa using hq)).2)
          have hoW := Owns.same _ _ _ ho (w' := wq) (fun q hq => hb3.block q (hbd0 q (List.mem_append_right _ hq)).2)
          have hsW : wz.heap.size ≤ wq.heap.size := by omega
          have hdl : done.length ≤ 8 := by omega
          have Hdk := Lib.hid hdk
          clear hdk
          have hbW := hb4
          clear hat hat' hf hown ho hbd0 R1 R2 p0 p1 p2 hb4
          go_wp2
          go_region_held3 (fun w' => w'.cell? ⟨wo.heap.size, 0, none⟩ = some (.int .i64 y.at_) ∧ w'.cell? ⟨wo.heap.size, 1, none⟩ = some (.slice B1 y.less.length e1) ∧ w'.cell? ⟨wo.heap.size, 2, none⟩ = some (.slice B2 y.more.length e2)) (first | trivial | exact ⟨cy0, cy1, cy2⟩ | exact ⟨cx0, cx1, cx2⟩ | exact ⟨cw0, cw1, cw2⟩ | go_keep) (first
            | (go_at_call 38; refine (impl_copyText_any _ _ _ _ _ lo' hi' (show Rep wq.drew lo' hi' _ (.slice B1 y.less.length e1) from R3.drewN 1) (by simpa using hhq) (by omega)).mono ?_
               rintro e w5 ⟨A5, n5, c5, rfl, hb5, hf5⟩
               have cw0 : w5.cell? ⟨wo.heap.size, 0, none⟩ = some (.int .i64 y.at_) := (hb5.cell (p := ⟨wo.heap.size, 0, none⟩) hWlt).trans g0
               have cw1 : w5.cell? ⟨wo.heap.size, 1, none⟩ = some (.slice B1 y.less.length e1) := (hb5.cell (p := ⟨wo.heap.size, 1, none⟩) hWlt).trans g1
               have cw2 : w5.cell? ⟨wo.heap.size, 2, none⟩ = some (.slice B2 y.more.length e2) := (hb5.cell (p := ⟨wo.heap.size, 2, none⟩) hWlt).trans g2)
            | (go_at_call 38; refine (impl_copyText_any _ _ _ _ _ lo' hi' ((show Rep wq.drew lo' hi' _ (.slice B2 y.more.length e2) from R4.drewN 1).keep hb5 (by simpa using hhq)) (Nat.le_trans (by simpa using hhq) hb5.size) (by omega)).mono ?_
               rintro e w6 ⟨A6, n6, c6, rfl, hb6, hf6⟩
               have cx0 : w6.cell? ⟨wo.heap.size, 0, none⟩ = some (.int .i64 y.at_) := (hb6.cell (p := ⟨wo.heap.size, 0, none⟩) (Nat.lt_of_lt_of_le hWlt hb5.size)).trans cw0
               have cx1 : w6.cell? ⟨wo.heap.size, 1, none⟩ = some (.slice B1 y.less.length e1) := (hb6.cell (p := ⟨wo.heap.size, 1, none⟩) (Nat.lt_of_lt_of_le hWlt hb5.size)).trans cw1
               have cx2 : w6.cell? ⟨wo.heap.size, 2, none⟩ = some (.slice B2 y.more.length e2) := (hb6.cell (p := ⟨wo.heap.size, 2, none⟩) (Nat.lt_of_lt_of_le hWlt hb5.size)).trans cw2)
            | (
               have hown7 := ownsRow_same (w' := w6) hownW (fun q hq => (hb6.block q (by have := (hownW.lt q (by simpa using hq)).2; have := hb5.size; simp at *; omega)).trans (hb5.block q (hownW.lt q (by simpa using hq)).2))
               refine step_append_src _ (by rfl) (.tmp 44) (.tmp 53) _ (by rfl) wz.heap.size 42 ih _ 3 56 Try.underlying23 gi0 gi1 gi2 gi3 (by rfl) (by omega) _ (done.length) us (by rfl) (hown7.alloc _) _ 1 1 [.int .i64 s, .slice A5 n5 c5, .slice A6 n6 c6] (by rfl) (Src.lit w6 42 [.int .i64 s, .slice A5 n5 c5, .slice A6 n6 c6] 3 1 rfl) (by intro u hu; simp at hu; rcases hu with rfl | rfl | rfl <;> rfl) (by unfold maxLen; omega) (by omega) (by have := hb5.size; have := hb6.size; simp at *; omega) ?_
               clear hown7
               intro A7 c7 w7 hown7 hg7 hat7
               change World.grownBy _ w7 (Value.slice A' (done.length) c').ownBlock at hg7
               change _ = (Value.slice A' (done.length) c').ownBlock ∨ _ at hat7
               have cy0 : w7.cell? ⟨wo.heap.size, 0, none⟩ = some (.int .i64 y.at_) := (World.cell?_of_block ((hg7.block _ (by simp; have := hb5.size; have := hb6.size; simp at *; omega) hrowne).trans (Below.heap_alloc w6 _ _ (by have := hb5.size; have := hb6.size; simp at *; omega)))).trans cx0
               have cy1 : w7.cell? ⟨wo.heap.size, 1, none⟩ = some (.slice B1 y.less.length e1) := (World.cell?_of_block ((hg7.block _ (by simp; have := hb5.size; have := hb6.size; simp at *; omega) hrowne).trans (Below.heap_alloc w6 _ _ (by have := hb5.size; have := hb6.size; simp at *; omega)))).trans cx1
               have cy2 : w7.cell? ⟨wo.heap.size, 2, none⟩ = some (.slice B2 y.more.length e2) := (World.cell?_of_block ((hg7.block _ (by simp; have := hb5.size; have := hb6.size; simp at *; omega) hrowne).trans (Below.heap_alloc w6 _ _ (by have := hb5.size; have := hb6.size; simp at *; omega)))).trans cx2))
          have hb5 : Below wq.heap.size wq w5 := ⟨hb5.os, hb5.tape, hb5.output, hb5.size, hb5.block⟩
          have hs5 := hb5.size
          have hs6 := hb6.size
          have hf5 : Fresh w5 wq.heap.size w5.heap.size (encText y.less) (.slice A5 n5 c5) := hf5
          have hbV := hbW.trans ((hb5.trans (hb6.mono hs5)).mono hsW)
          have hs36 := hbV.size
          have hbX := hbV.alloc hs36 (Obj.cells #[.int .i64 s, .slice A5 n5 c5, .slice A6 n6 c6] 42)
          have hb7 := hbX.grown hg7 (by simp; omega) (fun g hg => (hownW.lt g hg).1)
          have hr5 : Fresh (w6.alloc (Obj.cells #[.int .i64 s, .slice A5 n5 c5, .slice A6 n6 c6] 42)) wq.heap.size w5.heap.size (encText y.less) (.slice A5 n5 c5) := hf5.same (((Same.of_below hb6 (Nat.le_refl _)).alloc hs6 _).mono (Nat.zero_le _) (Nat.le_refl _))
          have hr6 : Fresh (w6.alloc (Obj.cells #[.int .i64 s, .slice A5 n5 c5, .slice A6 n6 c6] 42)) w5.heap.size w6.heap.size (encText y.more) (.slice A6 n6 c6) := hf6.same ((Same.refl _ _ _).alloc (Nat.le_refl _) _)
          have hnew : FreshL (w6.alloc (Obj.cells #[.int .i64 s, .slice A5 n5 c5, .slice A6 n6 c6] 42)) wq.heap.size w6.heap.size (cHunks (⟨s, y.less, y.more⟩ : PHunk)) [.int .i64 s, .slice A5 n5 c5, .slice A6 n6 c6] :=
            FreshL.plain ⟨rfl, rfl⟩ (FreshL.cons hr5 (Fresh.one hr6) hs5 hs6)
          have hk6' : ∀ zz ∈ G, (w6.alloc (Obj.cells #[.int .i64 s, .slice A5 n5 c5, .slice A6 n6 c6] 42)).heap[zz]? = wq.heap[zz]? := fun zz hq => by
            have := hbd zz (List.mem_append_right _ hq)
            exact (Below.heap_alloc w6 _ zz (by omega)).trans ((hb6.block zz (by omega)).trans (hb5.block zz (by omega)))
          have ho7 := Owns.same _ _ _ hoW hk6'
          have hfin := Fresh.grew ho7 hnodup hbd hnew hown7 hg7 hat7 (Nat.le_trans hs5 hs6) (by simp) hsW
          have hcons : done.flatMap cHunks ++ cHunks (⟨s, y.less, y.more⟩ : PHunk) = (done ++ [(⟨s, y.less, y.more⟩ : PHunk)]).flatMap cHunks := by simp
          rw [hcons] at hfin
          have Hf := Lib.hid hfin
          clear hfin hcons hnew hr5 hr6 hk6' hown7 hg7 hat7 hbX hbV hf5 hf6 hb5 hb6 ho7 hoW hownW
          go_wp2
          go_roundw
          case rel => exact ⟨k + 1, done ++ [(⟨s, y.less, y.more⟩ : PHunk)], _, _, _, by omega, rfl, by go_num, by simp [Hdk.out], Lib.hid (by rw [Hstep.out, ← ht.out, Hat.out]; rfl), Hf.out, hb7⟩
          case measure => simp [intOf]; omega
    · obtain rfl : k = ys.length := by omega
      go_wp2
      go_ret
      have ht := ht.out
      rw [List.take_length, ← Hres.out] at ht
      subst ht
      exact ⟨_, _, _, rfl, Hz.out.trans (hb.mono hwz), hf.mono hwz (Nat.le_refl _)⟩
end Go.Proofs.Ythjjocimpkjldaa
