/- Walk: AncFar: the program's. -/
import Derived.Test.YtocncjohpikfcaaDoorAncAll
namespace Go.Proofs.YtocncjohpikfcaaDoor
open Go.RowKit

def relax (v : Int) (m : List Int) (p : Int) : List Int := if m.getD p.toNat 0 < 0 ∨ v < m.getD p.toNat 0 then m.set p.toNat v else m
def relaxAll (v : Int) (m : List Int) (ps : List Int) : List Int := ps.foldl (relax v) m
def farStep (cs : List PCommit) (i : Nat) (m : List Int) : List Int := if m.getD i 0 < 0 then m else relaxAll (m.getD i 0 + 1) m (parsOf cs i)
def farFrom (cs : List PCommit) : Nat → List Int → List Int
  | 0, m => m
  | i + 1, m => farFrom cs i (farStep cs i m)
def fars (cs : List PCommit) (a : Nat) : List Int := farFrom cs (a + 1) ((List.replicate cs.length (-1)).set a 0)
theorem relax_len (v : Int) (m : List Int) (p : Int) : (relax v m p).length = m.length := by unfold relax; split <;> simp
theorem relaxAll_len (v : Int) (ps : List Int) : ∀ m : List Int, (relaxAll v m ps).length = m.length := by
  unfold relaxAll
  induction ps with
  | nil => intro m; rfl
  | cons p ps ih => intro m; rw [List.foldl_cons, ih, relax_len]
theorem farStep_len (cs : List PCommit) (i : Nat) (m : List Int) : (farStep cs i m).length = m.length := by unfold farStep; split <;> simp [relaxAll_len]
theorem farFrom_len (cs : List PCommit) : ∀ (i : Nat) (m : List Int), (farFrom cs i m).length = m.length
  | 0, m => rfl
  | i + 1, m => by rw [farFrom, farFrom_len, farStep_len]
theorem fars_len (cs : List PCommit) (a : Nat) : (fars cs a).length = cs.length := by unfold fars; rw [farFrom_len]; simp
theorem relaxAll_snoc (v : Int) (m : List Int) (ps : List Int) (p : Int) : relaxAll v m (ps ++ [p]) = relax v (relaxAll v m ps) p := by unfold relaxAll; rw [List.foldl_append]; rfl
theorem relaxAll_keep {i : Nat} (v : Int) : ∀ (ps : List Int) (m : List Int), (∀ p ∈ ps, p.toNat ≠ i) → (relaxAll v m ps)[i]? = m[i]?
  | [], m, _ => rfl
  | p :: ps, m, h => by
    show (relaxAll v (relax v m p) ps)[i]? = m[i]?
    rw [relaxAll_keep v ps _ (fun q hq => h q (by simp [hq]))]
    unfold relax
    split
    · rw [List.getElem?_set_ne (h p (by simp))]
    · rfl
/-- What stands in the list at most. -/
def FarIn (B : Int) (m : List Int) : Prop := ∀ v ∈ m, -1 ≤ v ∧ v ≤ B
theorem FarIn.set {B v : Int} {m : List Int} {p : Nat} (h : FarIn B m) (h1 : -1 ≤ v) (h2 : v ≤ B) : FarIn B (m.set p v) := fun u hu => by
  rcases List.mem_or_eq_of_mem_set hu with h3 | rfl
  · exact h u h3
  · exact ⟨h1, h2⟩
theorem FarIn.mono {B C : Int} {m : List Int} (h : FarIn B m) (hc : B ≤ C) : FarIn C m := fun u hu => ⟨(h u hu).1, by have := (h u hu).2; omega⟩
theorem getD_int {m : List Int} {k : Nat} {b : Int} (h : m[k]? = some b) : m.getD k 0 = b := by simp [List.getD, h]
theorem row_set_i {m : List Int} {p : Nat} {v : Int} : ((m.map fun s => (.int .i64 s : Value)).set p (.int .i64 v)) = (m.set p v).map fun s => .int .i64 s := by
  rw [List.map_set]

def ancFar (r : PRepo) (a : Int) : List Int := if repoOk r && areIn r.commits.length [a] then fars r.commits a.toNat else []
theorem bnd_AncFar (r : PRepo) (a : Int) : (ancFar r a).length ≤ 16 := by
  unfold ancFar
  split
  · rename_i h
    rw [fars_len]
    simp only [Bool.and_eq_true] at h
    exact (repoOk_iff.1 h.1).1
  · simp
theorem ancFar_no {r : PRepo} {a : Int} (h : (repoOk r && areIn r.commits.length [a]) = false) : ancFar r a = [] := by unfold ancFar; rw [h]; rfl
theorem ancFar_yes {r : PRepo} {a : Nat} (h : (repoOk r && areIn r.commits.length [(a : Int)]) = true) : ancFar r a = fars r.commits a := by
  unfold ancFar; rw [h]; rfl

set_option maxRecDepth 100000 in
set_option maxHeartbeats 3200000 in
theorem impl_AncFar_any (a : Int) (r : PRepo) (A0 A1 : Option Addr) (n0 c0 n1 c1 : Nat) (w : World) (lo hi : Nat) (h0 : Rep w lo hi (encCommits r.commits) (.slice A0 n0 c0)) (h1 : Rep w lo hi (encHeads r.heads) (.slice A1 n1 c1)) (hh : hi ≤ w.heap.size) (hr : okRepoS r) :
    Calls Tryd.prog 33 #[.agg #[.slice A0 n0 c0, .slice A1 n1 c1], .int .i64 a] w fun e w' => ∃ A n c, e = .returned (.slice A n c) ∧ Below w.heap.size w w' ∧ Fresh w' w.heap.size w'.heap.size (encInts (ancFar r a)) (.slice A n c) := by
  have hca := fun w (h0 : Rep w lo hi (encCommits r.commits) (.slice A0 n0 c0)) (h1 : Rep w lo hi (encHeads r.heads) (.slice A1 n1 c1)) g hh hb hp => impl_are_any g [a] r A0 A1 n0 c0 n1 c1 w lo hi h0 h1 hh hr (by simp) hb hp
  have hbx := fun o o' => ((Below.refl w.heap.size w).alloc (Nat.le_refl _) o).alloc (by simp) o'
  cases hv : (repoOk r && areIn r.commits.length [a])
  · rw [hv] at hca
    rw [ancFar_no hv]
    clear hv
    go_enter Tryd.func33, Tryd.ntmps33
    go_wp2_with fail
    refine Calls.mono (hca _ (h0.keep (hbx _ _) hh) (h1.keep (hbx _ _) hh) (w.heap.size + 1) (by simp; omega) (by simp) ?_) ?_
    · intro j x hx
      rcases j with _ | j <;> simp at hx <;> subst hx <;> simp [go_sem]
    rintro e w1 ⟨rfl, hb1⟩
    have hbw : Below w.heap.size w w1 := (hbx _ _).trans (hb1.mono (by simp; omega))
    have hsz := hbw.size
    clear hb1
    go_wp2
    go_ret
    exact ⟨_, _, _, rfl, hbw, fresh_none _ _ hsz⟩
  · rw [hv] at hca
    obtain ⟨ho, ka, rfl, hka⟩ := are_one hv
    rw [ancFar_yes hv]
    obtain ⟨h16, hall, _⟩ := repoOk_iff.1 ho
    have hl0 := Commits.n h0
    obtain ⟨xs, hxs⟩ : ∃ xs, xs = r.commits := ⟨_, rfl⟩
    have hF : fars xs ka = farFrom xs (ka + 1) ((List.replicate n0 (-1)).set ka 0) := by unfold fars; rw [hl0, hxs]
    rw [← hl0] at hka h16
    have hall2 : ∀ k, k < n0 → commitAt xs k = true := by rw [hl0, hxs]; exact hall
    have H0 := h0
    rw [← hxs] at H0 ⊢
    have Hall := Lib.hid hall2
    have HF := Lib.hid hF
    clear hv ho hall hall2 hl0 hxs hF
    obtain ⟨ib, bi0, bi1, bi2, bi3⟩ := info_parts Tryd.infoIntA
    have hka' : (ka : Int) < (n0 : Int) := by omega
    go_enter Tryd.func33, Tryd.ntmps33
    go_wp2_with fail
    refine Calls.mono (hca _ (h0.keep (hbx _ _) hh) (h1.keep (hbx _ _) hh) (w.heap.size + 1) (by simp; omega) (by simp) ?_) ?_
    · intro j x hx
      rcases j with _ | j <;> simp at hx <;> subst hx <;> simp [go_sem]
    rintro e w1 ⟨rfl, hb1⟩
    have q0 := box_two (a := w.heap.size) (j := 0) (v := .slice A0 n0 c0) hb1 (by simp [go_sem]) (by simp)
    have hbw : Below w.heap.size w w1 := (hbx _ _).trans (hb1.mono (by simp; omega))
    have hsz := hbw.size
    have hs1 : w.heap.size < w1.heap.size := by have := hb1.size; simp at this; omega
    clear hb1 hca hr h0 h1
    go_wp2_with (at_make; refine wpList_make_full _ rfl _ _ _ rfl w1.heap.size 3 ib _ 1 Tryd.underlying39 bi0 bi1 bi2 _ _ _ _ n0 rfl rfl rfl rfl ?c1 ?c2 ?c3 ?_)
    case c1 => first | omega | (rw [bi3]; omega)
    case c2 => first | omega | (unfold maxLen; omega)
    try (case c3 => first | omega | (simp; done) | (simp; omega) | exact Nat.le_refl _)
    intro w2 hown hg
    have hb2 : Below w1.heap.size w1 w2 := (Below.refl _ _).grown hg (Nat.le_refl _) (by simp)
    have q02 : w2.cell? ⟨w.heap.size, 0, none⟩ = some (.slice A0 n0 c0) := (hb2.cell (by exact hs1)).trans q0
    have hbw2 := hbw.trans (hb2.mono hsz)
    have hs2 := (hown.lt _ rfl).2
    clear hg hb2 q0 hbw
    go_wp2
    go_loopw [21] (fun i wr => ∃ (k : Nat) (us : List Value), k ≤ n0 ∧ i = .int .i64 k ∧ wr.ownsRow w1.heap.size 3 1 (.slice (some ⟨w1.heap.size, 0, none⟩) n0 n0) n0 us ∧ Hid (us.take k = (List.replicate k (.int .i64 (-1)))) ∧
        Below w.heap.size w wr ∧ w1.heap.size < wr.heap.size ∧ wr.cell? ⟨w.heap.size, 0, none⟩ = some (.slice A0 n0 c0)) (fun i _ => n0 - (intOf i).toNat)
    case atStart => exact ⟨0, _, Nat.zero_le _, rfl, hown, Lib.hid (by simp), hbw2, hs2, q02⟩
    case round =>
      clear hown hbw2 hs2 q02
      obtain ⟨k, us, hk, rfl, hown, ht, hb, hsz2, hq⟩ := hrel
      have hul := hown.1
      by_cases hkn : k < n0
      · have hkn' : (k : Int) < (n0 : Int) := by omega
        obtain ⟨u0, hu0⟩ : ∃ u0, us[k]? = some u0 := ⟨us[k]'(by omega), List.getElem?_eq_getElem (by omega)⟩
        have hcell := hown.cellAt k (by omega)
        rw [hu0] at hcell
        have hfr := hown.frozenAt k
        have hnew := hown.stored k (.int .i64 (-1))
        have r0 : (wr.setCell ⟨w1.heap.size, k, none⟩ (.int .i64 (-1))).cell? ⟨w.heap.size, 0, none⟩ = some (.slice A0 n0 c0) := by
          rw [World.cell?_of_block (hnew.2.block w.heap.size (by omega) (by simp; omega))]; exact hq
        have hstep : (us.set k (.int .i64 (-1))).take (k + 1) = List.replicate (k + 1) (.int .i64 (-1)) := by
          rw [List.take_add_one, List.take_set_of_le (by omega), ht.out, List.getElem?_set_self (by omega), List.replicate_succ']
          rfl
        have H1 := Lib.hid hstep
        clear hstep hu0 hul
        go_wp2
        go_roundw
        case rel => exact ⟨k + 1, _, by omega, by go_num, hnew.1, H1, hb.setCell (by show w.heap.size ≤ w1.heap.size; omega) _, by simpa using hsz2, r0⟩
        case measure => first | (simp [intOf]; done) | (simp [intOf]; omega)
      · obtain rfl : k = n0 := by omega
        have hus : us = (List.replicate k (-1)).map fun s => (.int .i64 s : Value) := by
          have := ht.out
          rw [List.take_of_length_le (by omega)] at this
          rw [this]; simp
        subst hus
        clear hul ht
        obtain ⟨m0, hm0⟩ : ∃ m0 : List Int, m0 = List.replicate k (-1) := ⟨_, rfl⟩
        have hlm0 : m0.length = k := by rw [hm0]; simp
        have hB0 : FarIn 0 (m0.set ka 0) := FarIn.set (fun v hv => by rw [hm0] at hv; have := (List.mem_replicate.1 hv).2; omega) (by omega) (by omega)
        have hfin := HF.out
        rw [← hm0] at hfin hown
        clear hm0 HF
        have hcell := hown.cellAt ka (by omega)
        obtain ⟨bz, hbz⟩ : ∃ bz, m0[ka]? = some bz := ⟨m0[ka]'(by omega), List.getElem?_eq_getElem (by omega)⟩
        rw [List.getElem?_map, hbz] at hcell
        have hfr := hown.frozenAt ka
        have hnew := hown.stored ka (.int .i64 0)
        rw [row_set_i] at hnew
        have q1 : (wr.setCell ⟨w1.heap.size, ka, none⟩ (.int .i64 0)).cell? ⟨w.heap.size, 0, none⟩ = some (.slice A0 k c0) := by
          rw [World.cell?_of_block (hnew.2.block w.heap.size (by omega) (by simp; omega))]; exact hq
        obtain ⟨m1, hm1⟩ : ∃ m1, m1 = m0.set ka 0 := ⟨_, rfl⟩
        have hlm1 : m1.length = k := by rw [hm1]; simpa using hlm0
        rw [← hm1] at hnew hfin hB0
        have hrow1 := hnew.1
        have Hfin := Lib.hid hfin
        have HB0 := Lib.hid hB0
        obtain ⟨wo, rfl⟩ : ∃ wo : World, wo = wr := ⟨_, rfl⟩
        have hbs : Below w.heap.size w (wo.setCell ⟨w1.heap.size, ka, none⟩ (.int .i64 0)) := hb.setCell (by show w.heap.size ≤ w1.heap.size; omega) _
        have hss : w1.heap.size < (wo.setCell ⟨w1.heap.size, ka, none⟩ (.int .i64 0)).heap.size := by simpa using hsz2
        clear hfin hB0 hbz hm1 hnew hlm0 hb hsz2
        go_wp2
        go_loopw [7] (fun i wr => ∃ (j : Nat) (m : List Int), j ≤ ka + 1 ∧ i = .int .i64 ((j : Int) - 1) ∧ m.length = k ∧ Hid (fars xs ka = farFrom xs j m) ∧ Hid (FarIn ((ka : Int) + 1 - j) m) ∧
            wr.ownsRow w1.heap.size 3 1 (.slice (some ⟨w1.heap.size, 0, none⟩) k k) k (m.map fun s => .int .i64 s) ∧ Below w.heap.size w wr ∧ w1.heap.size < wr.heap.size ∧
            wr.cell? ⟨w.heap.size, 0, none⟩ = some (.slice A0 k c0)) (fun i _ => (intOf i + 1).toNat)
        case atStart => exact ⟨ka + 1, m1, Nat.le_refl _, by go_num, hlm1, Hfin, Lib.hid (HB0.out.mono (by omega)), hrow1, hbs, hss, q1⟩
        case round =>
          clear hown hcell hfr hq q1 hrow1 hbs hss
          obtain ⟨j, m, hj, rfl, hlm, ht, hB, hown, hb, hsz2, hq⟩ := hrel
          rcases j with _ | j
          · have hv := ht.out
            rw [farFrom] at hv
            have hfin := (Fresh.of_row hown (owns_ints _ _)).mono (Nat.le_of_lt hs1) (Nat.le_refl _)
            rw [← hv] at hfin
            have Hf := Lib.hid hfin
            clear hfin hv
            go_wp2
            go_ret
            exact ⟨_, _, _, rfl, hb, Hf.out⟩
          · have hja : j < k := by omega
            have hja' : (j : Int) < (k : Int) := by omega
            have hcell := hown.cellAt j (by omega)
            obtain ⟨v, hbz⟩ : ∃ v, m[j]? = some v := ⟨m[j]'(by omega), List.getElem?_eq_getElem (by omega)⟩
            rw [List.getElem?_map, hbz] at hcell
            obtain ⟨hv1, hv2⟩ := hB.out v (List.mem_of_getElem? hbz)
            have hst : fars xs ka = farFrom xs j (farStep xs j m) := ht.out
            have Hst := Lib.hid hst
            have he : (((j + 1 : Nat) : Int) - 1) = (j : Int) := by omega
            have hBs : FarIn ((ka : Int) + 1 - j) m := hB.out.mono (by omega)
            have HBs := Lib.hid hBs
            rw [he]
            clear hst he ht hBs hB
            by_cases hneg : v < 0
            · have hn : farStep xs j m = m := by unfold farStep; rw [getD_int hbz, if_pos hneg]
              have Hn := Lib.hid hn
              clear hn hbz
              go_wp2
              go_roundw
              case rel => exact ⟨j, m, by omega, by go_num, hlm, Lib.hid (Hn.out ▸ Hst.out), HBs, hown, hb, hsz2, hq⟩
              case measure => first | (simp [intOf]; done) | (simp [intOf]; omega)
            · obtain ⟨b1, o1, x, rfl, hblo, hbhi, hx, B0, m0', e0, B2, m2, e2, d0, r0, d1, d2, r2⟩ := Commits.at (H0.keep hb hh) hja
              have hn : farStep xs j m = relaxAll (v + 1) m x.parents := by unfold farStep; rw [getD_int hbz, parsOf_eq hx, if_neg hneg]
              have Hn := Lib.hid hn
              have hpr := pars_range hx (Hall.out j hja)
              have Hpr := Lib.hid hpr
              have Hbz := Lib.hid hbz
              have hn0 := Ints.n r0
              obtain ⟨hpc, hpm⟩ := Ints.cap r0
              subst hn0
              obtain ⟨wz, rfl⟩ : ∃ wz : World, wz = wr := ⟨_, rfl⟩
              clear hn hbz hpr hx d1 d2 r2
              go_wp2
              go_loopw [48] (fun i wr => ∃ (l : Nat) (m' : List Int), l ≤ x.parents.length ∧ i = .int .i64 l ∧ m'.length = k ∧ Hid (m' = relaxAll (v + 1) m (x.parents.take l)) ∧ Hid (FarIn ((ka : Int) + 1 - j) m') ∧
                  wr.ownsRow w1.heap.size 3 1 (.slice (some ⟨w1.heap.size, 0, none⟩) k k) k (m'.map fun s => .int .i64 s) ∧ Below w.heap.size wz wr ∧ w1.heap.size < wr.heap.size ∧
                  wr.cell? ⟨w.heap.size, 0, none⟩ = some (.slice (some ⟨b1, o1, none⟩) k c0)) (fun i _ => x.parents.length - (intOf i).toNat)
              case atStart => exact ⟨0, m, Nat.zero_le _, rfl, hlm, Lib.hid rfl, HBs, hown, Below.refl _ _, hsz2, hq⟩
              case round =>
                clear hown hq hsz2 hcell HBs
                obtain ⟨l, m', hl, rfl, hlm', ht', hB', hown, hb', hsz2, hq⟩ := hrel
                have hcellj := hown.cellAt j (by omega)
                have hm'j : m'[j]? = some v := by
                  rw [ht'.out, relaxAll_keep _ _ _ (fun p hp => by have := Hpr.out p (List.mem_of_mem_take hp); omega), Hbz.out]
                rw [List.getElem?_map, hm'j] at hcellj
                by_cases hln : l < x.parents.length
                · have hln' : (l : Int) < (x.parents.length : Int) := by omega
                  obtain ⟨b5, o5, q, rfl, _, _, hqx, f5⟩ := Ints.at (r0.keep hb' hh) hln
                  obtain ⟨hq0, hq1⟩ := Hpr.out q (List.mem_of_getElem? hqx)
                  obtain ⟨p, rfl⟩ : ∃ p : Nat, q = p := ⟨q.toNat, by omega⟩
                  have hpa : p < k := by omega
                  have hpa' : (p : Int) < (k : Int) := by omega
                  have hcell := hown.cellAt p (by omega)
                  obtain ⟨vp, hbz⟩ : ∃ vp, m'[p]? = some vp := ⟨m'[p]'(by omega), List.getElem?_eq_getElem (by omega)⟩
                  rw [List.getElem?_map, hbz] at hcell
                  obtain ⟨hp1, hp2⟩ := hB'.out vp (List.mem_of_getElem? hbz)
                  have hfr := hown.frozenAt p
                  have hrx : relaxAll (v + 1) m (x.parents.take (l + 1)) = if vp < 0 ∨ v + 1 < vp then m'.set p (v + 1) else m' := by
                    rw [List.take_add_one, hqx, Option.toList, relaxAll_snoc, ← ht'.out]
                    unfold relax
                    rw [Int.toNat_natCast, getD_int hbz]
                  have hnew : ∀ d, ((wr.drewN d).setCell ⟨w1.heap.size, p, none⟩ (.int .i64 (v + 1))).ownsRow w1.heap.size 3 1 (.slice (some ⟨w1.heap.size, 0, none⟩) k k) k ((m'.set p (v + 1)).map fun s => .int .i64 s) ∧
                      ((wr.drewN d).setCell ⟨w1.heap.size, p, none⟩ (.int .i64 (v + 1))).cell? ⟨w.heap.size, 0, none⟩ = some (.slice (some ⟨b1, o1, none⟩) k c0) := fun d => by
                    have hd := ownsRow_same (w' := wr.drewN d) hown (fun _ _ => rfl)
                    have hs := hd.stored p (.int .i64 (v + 1))
                    rw [row_set_i] at hs
                    refine ⟨hs.1, ?_⟩
                    rw [World.cell?_of_block (hs.2.block w.heap.size (by show _ < wr.heap.size; omega) (by simp; omega))]; exact hq
                  have hdr : ∀ d, (wr.drewN d).ownsRow w1.heap.size 3 1 (.slice (some ⟨w1.heap.size, 0, none⟩) k k) k (m'.map fun s => .int .i64 s) := fun d => ownsRow_same (w' := wr.drewN d) hown (fun _ _ => rfl)
                  have hbd : ∀ d, Below w.heap.size wz (wr.drewN d) := fun d => below_drewN hb' _
                  have hlm2 : (m'.set p (v + 1)).length = k := by simpa using hlm'
                  have hBset : FarIn ((ka : Int) + 1 - j) (m'.set p (v + 1)) := hB'.out.set (by omega) (by omega)
                  have HBset := Lib.hid hBset
                  clear hbz hqx hBset hm'j
                  have hwr : IntKind.i64.wrap (v + 1) = v + 1 := by rw [IntKind.wrap_i64]; omega
                  by_cases hvp : vp < 0
                  · rw [if_pos (.inl hvp)] at hrx
                    have Hrx := Lib.hid hrx
                    clear hrx
                    go_wp2
                    go_quiet (fail)
                    go_wp2
                    go_roundw
                    case rel => exact ⟨l + 1, _, by omega, by go_num, hlm2, Lib.hid Hrx.out.symm, HBset, (hnew _).1, (hbd _).setCell (by show w.heap.size ≤ w1.heap.size; omega) _, by simpa using hsz2, (hnew _).2⟩
                    case measure => first | (simp [intOf]; done) | (simp [intOf]; omega)
                  · by_cases hlt : v + 1 < vp
                    · rw [if_pos (.inr hlt)] at hrx
                      have Hrx := Lib.hid hrx
                      clear hrx
                      go_wp2
                      go_quiet (fail)
                      go_wp2
                      go_roundw
                      case rel => exact ⟨l + 1, _, by omega, by go_num, hlm2, Lib.hid Hrx.out.symm, HBset, (hnew _).1, (hbd _).setCell (by show w.heap.size ≤ w1.heap.size; omega) _, by simpa using hsz2, (hnew _).2⟩
                      case measure => first | (simp [intOf]; done) | (simp [intOf]; omega)
                    · rw [if_neg (by omega)] at hrx
                      have Hrx := Lib.hid hrx
                      clear hrx
                      go_wp2
                      go_quiet (fail)
                      go_wp2
                      go_roundw
                      case rel => exact ⟨l + 1, m', by omega, by go_num, hlm', Lib.hid Hrx.out.symm, hB', hdr _, hbd _, by simpa using hsz2, by simpa using hq⟩
                      case measure => first | (simp [intOf]; done) | (simp [intOf]; omega)
                · obtain rfl : l = x.parents.length := by omega
                  have hm' : m' = farStep xs j m := by rw [Hn.out, ht'.out, List.take_length]
                  have hst := Hst.out
                  rw [← hm'] at hst
                  have Hst' := Lib.hid hst
                  clear hst hm' hm'j
                  go_wp2
                  go_roundw
                  case rel => exact ⟨j, m', by omega, by go_num, hlm', Hst', hB', hown, hb.trans hb', hsz2, hq⟩
                  case measure => first | (simp [intOf]; done) | (simp [intOf]; omega)
end Go.Proofs.YtocncjohpikfcaaDoor
