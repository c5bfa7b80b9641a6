/- Several of my texts in one: Anc2, RepoAt, AncIs. -/
import Derived.Test.YtenkceeicmfjhaaGreatDoorZ30
import Derived.Test.YtenkceeicmfjhaaGreatDoorZ29
/- Walk: the reference's l8All. -/
namespace Go.Proofs.YtenkceeicmfjhaaGreatDoor
open Go.RowKit

set_option maxRecDepth 100000 in
set_option maxHeartbeats 1600000 in
theorem spec_l8All_any (r : PRepo) (A0 A1 : Option Addr) (n0 c0 n1 c1 : Nat) (w : World) (lo hi : Nat) (h0 : Rep w lo hi (encCommits r.commits) (.slice A0 n0 c0)) (hh : hi ≤ w.heap.size) (hok : repoOk r = true) (a : Nat) (ha : a < r.commits.length) :
    Calls Tryz.prog 58 #[.agg #[.slice A0 n0 c0, .slice A1 n1 c1], .int .i64 a] w fun e w' => ∃ A n c, e = .returned (.slice A n c) ∧ Below w.heap.size w w' ∧ Fresh w' w.heap.size w'.heap.size (encInts (idxOf (ancs r.commits a))) (.slice A n c) := by
  have hl := Commits.n h0
  obtain ⟨hc, hm⟩ := Commits.cap h0
  subst hl
  obtain ⟨xs, hs⟩ := r
  dsimp only at *
  obtain ⟨h16, hall, _⟩ := repoOk_iff.1 hok
  dsimp only at h16 hall
  have Hall := Lib.hid hall
  clear hok hall
  obtain ⟨ib, bi0, bi1, bi2, bi3⟩ := info_parts Tryz.infoBool
  go_enter Tryz.func58, Tryz.ntmps58
  go_wp2_with (at_make; refine wpList_make_full _ rfl _ _ _ rfl (w.heap.size + 1) 4 ib _ 1 Tryz.underlying108 bi0 bi1 bi2 _ _ _ _ xs.length rfl rfl rfl rfl ?c1 ?c2 ?c3 ?_)
  case c1 => first | omega | (rw [bi3]; omega)
  case c2 => first | omega | (unfold maxLen; omega)
  try (case c3 => first | omega | (simp; done) | (simp; omega))
  intro w1 hown hg
  have hbx : Below w.heap.size w w1 := (((Below.refl _ _).alloc (Nat.le_refl _) _).grown hg (by simp) (by simp))
  have hs1 : w.heap.size + 1 < w1.heap.size := (hown.lt _ rfl).2
  have q0 : w1.cell? ⟨w.heap.size, 0, none⟩ = some (.slice A0 xs.length c0) := by
    rw [World.cell?_of_block (hg.block w.heap.size (by simp) (by simp))]; simp [go_sem]
  have hrow : w1.ownsRow (w.heap.size + 1) 4 1 (.slice (some ⟨w.heap.size + 1, 0, none⟩) xs.length xs.length) xs.length ((List.replicate xs.length false).map fun s => .bool s) := by
    have e : (madeCells #[(.bool false : Value)] xs.length).toList = (List.replicate xs.length false).map fun s => (.bool s : Value) := by
      rw [toList_madeCells_one]; simp
    rw [← e]; exact hown
  clear hown hg
  obtain ⟨m0, hm0⟩ : ∃ m0, m0 = List.replicate xs.length false := ⟨_, rfl⟩
  have hlm0 : m0.length = xs.length := by rw [hm0]; simp
  have hfin : ancFrom xs (a + 1) (m0.set a true) = ancs xs a := by rw [hm0]; rfl
  rw [← hm0] at hrow
  clear hm0
  have hcell := hrow.cellAt a (by omega)
  obtain ⟨bz, hbz⟩ : ∃ bz, m0[a]? = some bz := ⟨m0[a]'(by omega), List.getElem?_eq_getElem (by omega)⟩
  rw [List.getElem?_map, hbz] at hcell
  have hfr := hrow.frozenAt a
  have hnew := hrow.stored a (.bool true)
  rw [row_set] at hnew
  have q1 : (w1.setCell ⟨w.heap.size + 1, a, none⟩ (.bool true)).cell? ⟨w.heap.size, 0, none⟩ = some (.slice A0 xs.length c0) := by
    rw [World.cell?_of_block (hnew.2.block w.heap.size (by omega) (by simp))]; exact q0
  have Hfin := Lib.hid hfin
  have ha' : (a : Int) < (xs.length : Int) := by omega
  clear hfin hbz
  obtain ⟨m1, hm1⟩ : ∃ m1, m1 = m0.set a true := ⟨_, rfl⟩
  have hlm1 : m1.length = xs.length := by rw [hm1]; simpa using hlm0
  rw [← hm1] at hnew Hfin
  have hrow1 := hnew.1
  clear hm1 hnew hrow
  go_wp2
  refine name_world ?_
  intro W0 hW0
  have hbW : Below w.heap.size w W0 := by rw [hW0]; exact hbx.setCell (by simp) _
  have hsW : w.heap.size + 1 < W0.heap.size := by rw [hW0]; simpa using hs1
  rw [← hW0] at q1 hrow1
  clear hW0 q0 hs1 hbx hcell hfr hlm0
  go_loopw [6] (fun i wr => ∃ (k : Nat) (m : List Bool), k ≤ a + 1 ∧ i = .int .i64 ((k : Int) - 1) ∧ m.length = xs.length ∧ Hid (ancFrom xs k m = ancs xs a) ∧
      wr.ownsRow (w.heap.size + 1) 4 1 (.slice (some ⟨w.heap.size + 1, 0, none⟩) xs.length xs.length) xs.length (m.map fun s => .bool s) ∧ Below w.heap.size w wr ∧ w.heap.size + 1 < wr.heap.size ∧
      wr.cell? ⟨w.heap.size, 0, none⟩ = some (.slice A0 xs.length c0)) (fun i _ => (intOf i + 1).toNat)
  case atStart => exact ⟨a + 1, m1, Nat.le_refl _, by go_num, hlm1, Hfin, hrow1, hbW, hsW, q1⟩
  case round =>
    obtain ⟨k, m, hk, rfl, hlm, ht, hown, hb, hsz, hq⟩ := hrel
    clear hrow1 hbW hsW q1 Hfin
    obtain ⟨wo, rfl⟩ : ∃ wo : World, wo = wr := ⟨_, rfl⟩
    rcases k with _ | k
    · have hv := ht.out
      rw [ancFrom] at hv
      have hfm : Fresh wo w.heap.size wo.heap.size (encBools m) _ := (Fresh.of_row hown (owns_bools _ m)).mono (Nat.le_succ _) (Nat.le_refl _)
      obtain ⟨ii, gi0, gi1, gi2, gi3⟩ := info_parts Tryz.infoIntA
      have hR := hfm.rep
      have hmx : xs.length ≤ 16 := h16
      have hv' : idxOf m = idxOf (ancs xs a) := by rw [hv]
      have Hv := Lib.hid hv'
      clear hv hv' hfm hown h0 Hall ha ha' ht hc hm
      have Hlm := Lib.hid hlm
      clear hlm
      have hbx := hb
      rw [show (((0 : Nat) : Int) - 1) = -1 from rfl]
      go_wp2
      go_loopw [8, 9] (fun t i wr => ∃ (k : Nat) (A' : Option Addr) (n' c' : Nat), k ≤ xs.length ∧ i = .int .i64 k ∧ t = .slice A' n' c' ∧ n' = (idxTo m k).length ∧
          wr.ownsRow wo.heap.size 3 1 (.slice A' n' c') n' ((idxTo m k).map fun x => .int .i64 x) ∧ Below wo.heap.size wo wr) (fun _ i _ => xs.length - (intOf i).toNat)
      case atStart => exact ⟨0, _, _, _, Nat.zero_le _, rfl, rfl, by simp [idxTo], by simpa [idxTo] using World.ownsRow_made wo #[] 0 (Nat.le_refl _) (Nat.zero_le _) rfl, (Below.refl _ _).alloc (Nat.le_refl _) _⟩
      case round =>
        obtain ⟨k, A', n', c', hk, rfl, rfl, hn', hown, hb⟩ := hrel
        have hsz2 := hb.size
        by_cases hkn : k < xs.length
        · have hkn' : (k : Int) < (xs.length : Int) := by omega
          obtain ⟨b1, o1, x, hAA, _, hbhi, hx, d0⟩ := Bools.at (hR.keep hb (Nat.le_refl _)) hkn
          simp only [Option.some.injEq, Addr.mk.injEq, and_true] at hAA
          obtain ⟨rfl, rfl⟩ := hAA
          simp only [Nat.zero_add] at d0
          have hstep := idxTo_next m k
          have hlen := idxTo_len m k
          rw [getD_some hx] at hstep
          obtain ⟨done, hdone⟩ : ∃ done, done = idxTo m k := ⟨_, rfl⟩
          rw [← hdone] at hn' hown hstep hlen
          subst hn'
          clear hx hdone
          cases x
          · have Hstep := Lib.hid hstep
            clear hstep
            go_wp2
            go_roundw
            case rel => exact ⟨k + 1, A', _, c', by omega, by go_num, rfl, by rw [Hstep.out]; simp, by rw [Hstep.out]; simpa using hown, hb⟩
            case measure => first | (simp [intOf]; done) | (simp [intOf]; omega)
          · have Hstep := Lib.hid hstep
            clear hstep
            go_wp2_with (at_builtin; refine wpList_append_src _ rfl (.tmp 61) (.tmp 63) _ rfl wo.heap.size 3 ii _ 1 8 Tryz.underlying48 gi0 gi1 gi2 gi3 rfl (by omega) _ done.length _ rfl (hown.alloc _) _ 1 1 [.int .i64 (k : Int)] rfl (Src.lit wr 3 [.int .i64 (k : Int)] 1 1 rfl) ?e2 ?e3 ?e4 ?e5 ?_)
            case e2 => first | rfl | (intro u hu; simp at hu; subst hu; rfl)
            case e3 => unfold maxLen; omega
            case e4 => omega
            case e5 => first | omega | (simp; omega)
            intro A4 c4 w4 hown4 hg4 hat4
            have hb4 : Below wo.heap.size wo w4 := (hb.alloc (by omega) _).grown hg4 (by simp; omega) (fun g hg => (hown.lt g hg).1)
            go_wp2
            go_roundw
            case rel => exact ⟨k + 1, A4, _, c4, by omega, by go_num, rfl, by rw [Hstep.out]; simp, by rw [Hstep.out]; simpa using hown4, hb4⟩
            case measure => first | (simp [intOf]; done) | (simp [intOf]; omega)
        · obtain rfl : k = xs.length := by omega
          subst hn'
          have hfin := ((Fresh.of_row hown (owns_ints _ _))).mono hbx.size (Nat.le_refl _)
          have hfe : idxTo m xs.length = idxOf (ancs xs a) := by rw [← Hlm.out]; exact Hv.out
          have Hfin := Lib.hid hfin
          have Hfe := Lib.hid hfe
          clear hfin hfe
          go_wp2
          go_ret
          exact ⟨_, _, _, rfl, hbx.trans (hb.mono hbx.size), by rw [← Hfe.out]; exact Hfin.out⟩
    · have hka : k < xs.length := by omega
      have hka' : (k : Int) < (xs.length : Int) := by omega
      have hcell := hown.cellAt k (by omega)
      obtain ⟨bz, hbz⟩ : ∃ bz, m[k]? = some bz := ⟨m[k]'(by omega), List.getElem?_eq_getElem (by omega)⟩
      rw [List.getElem?_map, hbz] at hcell
      have hst : ancFrom xs k (ancStep xs k m) = ancs xs a := ht.out
      have Hst := Lib.hid hst
      have he : (((k + 1 : Nat) : Int) - 1) = (k : Int) := by omega
      rw [he]
      clear hst he
      cases bz
      · obtain ⟨b1, o1, x, rfl, hblo, hbhi, hx, B0, m0', e0, B2, m2, e2, d0, r0, d1, d2, r2⟩ := Commits.at (h0.keep hb hh) hka
        have hn : ancStep xs k m = m := by unfold ancStep; rw [getD_some hbz]; rfl
        have Hn := Lib.hid hn
        clear hn hbz hx d1 d2 r2
        go_wp2
        go_loopw [7] (fun i wr => i = .int .i64 0 ∧ wr = wo) (fun _ _ => 0)
        case atStart => exact ⟨rfl, rfl⟩
        case round =>
          obtain ⟨rfl, rfl⟩ := hrel
          by_cases hm0' : 0 < m0'
          · have hm0i : (0 : Int) < (m0' : Int) := by omega
            go_wp2
            go_roundw
            case rel => exact ⟨k, m, by omega, by go_num, hlm, Lib.hid (Hn.out ▸ Hst.out), hown, hb, hsz, hq⟩
            case measure => first | (simp [intOf]; done) | (simp [intOf]; omega)
          · obtain rfl : m0' = 0 := by omega
            go_wp2
            go_roundw
            case rel => exact ⟨k, m, by omega, by go_num, hlm, Lib.hid (Hn.out ▸ Hst.out), hown, hb, hsz, hq⟩
            case measure => first | (simp [intOf]; done) | (simp [intOf]; omega)
      · obtain ⟨b1, o1, x, rfl, hblo, hbhi, hx, B0, m0', e0, B2, m2, e2, d0, r0, d1, d2, r2⟩ := Commits.at (h0.keep hb hh) hka
        have hn : ancStep xs k m = setPs m x.parents := by unfold ancStep; rw [getD_some hbz, parsOf_eq hx]; rfl
        have Hn := Lib.hid hn
        have hpr := pars_range hx (Hall.out k hka)
        have Hpr := Lib.hid hpr
        have Hmk := Lib.hid hbz
        have hn0 := Ints.n r0
        obtain ⟨hpc, hpm⟩ := Ints.cap r0
        subst hn0
        clear hn hbz hpr hx d1 d2 r2
        go_wp2
        go_loopw [7] (fun i wr => ∃ (l : Nat) (m' : List Bool), l ≤ x.parents.length ∧ i = .int .i64 l ∧ m'.length = xs.length ∧ Hid (m' = setPs m (x.parents.take l)) ∧
            wr.ownsRow (w.heap.size + 1) 4 1 (.slice (some ⟨w.heap.size + 1, 0, none⟩) xs.length xs.length) xs.length (m'.map fun s => .bool s) ∧ Below w.heap.size wo wr ∧ w.heap.size + 1 < wr.heap.size ∧
            wr.cell? ⟨w.heap.size, 0, none⟩ = some (.slice (some ⟨b1, o1, none⟩) xs.length c0)) (fun i _ => x.parents.length - (intOf i).toNat)
        case atStart => exact ⟨0, m, Nat.zero_le _, rfl, hlm, Lib.hid rfl, hown, Below.refl _ _, hsz, hq⟩
        case round =>
          clear hown hq hsz hcell
          obtain ⟨l, m', hl, rfl, hlm', ht', hown, hb', hsz, hq⟩ := hrel
          have hcellk := hown.cellAt k (by omega)
          rw [List.getElem?_map, ht'.out, setPs_keep _ _ (fun p hp => by have := Hpr.out p (List.mem_of_mem_take hp); omega), Hmk.out] at hcellk
          have hfc : ∀ j : Nat, wr.cell? ⟨b1, o1 + k * 3 + j, none⟩ = wo.cell? ⟨b1, o1 + k * 3 + j, none⟩ := fun j => hb'.cell (by show b1 < _; omega)
          have dr := (hfc 0).trans d0
          simp only [Nat.add_zero] at dr
          clear hfc
          by_cases hln : l < x.parents.length
          · have hln' : (l : Int) < (x.parents.length : Int) := by omega
            obtain ⟨b5, o5, q, rfl, _, _, hqx, f5⟩ := Ints.at (r0.keep hb' hh) hln
            obtain ⟨hq0, hq1⟩ := Hpr.out q (List.mem_of_getElem? hqx)
            obtain ⟨p, rfl⟩ : ∃ p : Nat, q = p := ⟨q.toNat, by omega⟩
            have hpa : p < xs.length := by omega
            have hpa' : (p : Int) < (xs.length : Int) := by omega
            have hcell := hown.cellAt p (by omega)
            obtain ⟨bz, hbz⟩ : ∃ bz, m'[p]? = some bz := ⟨m'[p]'(by omega), List.getElem?_eq_getElem (by omega)⟩
            rw [List.getElem?_map, hbz] at hcell
            have hfr := hown.frozenAt p
            have hnew := hown.stored p (.bool true)
            rw [row_set] at hnew
            have q1 : (wr.setCell ⟨w.heap.size + 1, p, none⟩ (.bool true)).cell? ⟨w.heap.size, 0, none⟩ = some (.slice (some ⟨b1, o1, none⟩) xs.length c0) := by
              rw [World.cell?_of_block (hnew.2.block w.heap.size (by omega) (by simp))]; exact hq
            have hst : m'.set p true = setPs m (x.parents.take (l + 1)) := by
              rw [List.take_add_one, hqx, Option.toList, setPs_snoc, ← ht'.out]; rfl
            have Hst := Lib.hid hst
            have hlm2 : (m'.set p true).length = xs.length := by simpa using hlm'
            clear hst hbz hqx
            go_wp2
            go_roundw
            case rel => exact ⟨l + 1, _, by omega, by go_num, hlm2, Hst, hnew.1, hb'.setCell (by simp) _, by simpa using hsz, q1⟩
            case measure => first | (simp [intOf]; done) | (simp [intOf]; omega)
          · obtain rfl : l = x.parents.length := by omega
            have hm' : m' = ancStep xs k m := by rw [Hn.out, ht'.out, List.take_length]
            have hst := Hst.out
            rw [← hm'] at hst
            have Hst' := Lib.hid hst
            clear hst hm'
            go_wp2
            go_roundw
            case rel => exact ⟨k, m', by omega, by go_num, hlm', Hst', hown, hb.trans hb', hsz, hq⟩
            case measure => first | (simp [intOf]; done) | (simp [intOf]; omega)
end Go.Proofs.YtenkceeicmfjhaaGreatDoor

/- Walks: where a branch is: RepoAt, the program's and the reference's. -/
namespace Go.Proofs.YtenkceeicmfjhaaGreatDoor
open Go.RowKit

def headOf : List PHead → Str → Int
  | [], _ => -1
  | h :: t, s => if h.name = s then h.at_ else headOf t s
theorem headOf_skip {hs : List PHead} {s : Str} {k : Nat} {x : PHead} (hx : hs[k]? = some x) (hne : x.name ≠ s) : headOf (hs.drop k) s = headOf (hs.drop (k + 1)) s := by
  rw [List.drop_eq_getElem_cons (List.getElem?_eq_some_iff.1 hx).1, headOf]
  rw [List.getElem?_eq_getElem (List.getElem?_eq_some_iff.1 hx).1] at hx
  rw [Option.some.inj hx, if_neg hne]
theorem headOf_here {hs : List PHead} {s : Str} {k : Nat} {x : PHead} (hx : hs[k]? = some x) (he : x.name = s) : headOf (hs.drop k) s = x.at_ := by
  rw [List.drop_eq_getElem_cons (List.getElem?_eq_some_iff.1 hx).1, headOf]
  rw [List.getElem?_eq_getElem (List.getElem?_eq_some_iff.1 hx).1] at hx
  rw [Option.some.inj hx, if_pos he]
def repoAt (r : PRepo) (s : Str) : Int := if repoOk r then headOf r.heads s else -1



theorem box_two {w w' : World} {o : Obj} {a : Nat} {j : Nat} {v : Value} (hb : Below (w.alloc o).heap.size (w.alloc o) w') (h : (w.alloc o).cell? ⟨a, j, none⟩ = some v) (ha : a ≤ w.heap.size) : w'.cell? ⟨a, j, none⟩ = some v :=
  (hb.cell (p := ⟨a, j, none⟩) (by simp; omega)).trans h


end Go.Proofs.YtenkceeicmfjhaaGreatDoor

/- Walks: are, l8Has, AncIs. -/
namespace Go.Proofs.YtenkceeicmfjhaaGreatDoor
open Go.RowKit

def areIn (n : Nat) (ps : List Int) : Bool := ps.all fun p => inRange p 0 ((n : Int) - 1)
def ancIs (r : PRepo) (a b : Int) : Bool := repoOk r && (areIn r.commits.length [a, b] && (ancs r.commits b.toNat).getD a.toNat false)
theorem inRange_nat {a : Int} {n : Nat} (h : inRange a 0 ((n : Int) - 1) = true) : ∃ k : Nat, a = k ∧ k < n := by
  simp [inRange] at h
  exact ⟨a.toNat, by omega, by omega⟩

set_option maxRecDepth 100000 in
set_option maxHeartbeats 1600000 in
theorem impl_are_any (b : Nat) (ps : List Int) (r : PRepo) (A0 A1 : Option Addr) (n0 c0 n1 c1 : Nat) (w : World) (lo hi : Nat) (h0 : Rep w lo hi (encCommits r.commits) (.slice A0 n0 c0)) (h1 : Rep w lo hi (encHeads r.heads) (.slice A1 n1 c1)) (hh : hi ≤ w.heap.size) (hr : okRepoS r) (hn : ps.length ≤ 100) (hb : b < w.heap.size) (hp : ∀ j x, ps[j]? = some x → w.cell? ⟨b, j, none⟩ = some (.int .i64 x)) :
    Calls Tryz.prog 22 #[.agg #[.slice A0 n0 c0, .slice A1 n1 c1], .slice (some ⟨b, 0, none⟩) ps.length ps.length] w fun e w' => e = .returned (.bool (repoOk r && areIn r.commits.length ps)) ∧ Below w.heap.size w w' := by
  have hc := fun w (h0 : Rep w lo hi (encCommits r.commits) (.slice A0 n0 c0)) (h1 : Rep w lo hi (encHeads r.heads) (.slice A1 n1 c1)) hh => impl_RepoOk_any r A0 A1 n0 c0 n1 c1 w lo hi h0 h1 hh hr
  have hbx := fun o => (Below.refl w.heap.size w).alloc (Nat.le_refl _) o
  have Hl0 := Lib.hid (Commits.n h0)
  have h16 : n0 ≤ 1048576 := by rw [Commits.n h0]; exact hr.1
  have Hp := Lib.hid hp
  clear hp
  cases ho : repoOk r
  all_goals
    rw [ho] at hc
    go_enter Tryz.func22, Tryz.ntmps22
    go_wp2_with fail
    refine Calls.mono (hc _ (h0.keep (hbx _) hh) (h1.keep (hbx _) hh) (by simp; omega)) ?_
    rintro e w1 ⟨rfl, hb1⟩
    have q0 := box_two (a := w.heap.size) (j := 0) (v := .slice A0 n0 c0) hb1 (by simp [go_sem]) (Nat.le_refl _)
    have q1 := box_two (a := w.heap.size) (j := 1) (v := .slice A1 n1 c1) hb1 (by simp [go_sem]) (Nat.le_refl _)
    have hbw : Below w.heap.size w w1 := (hbx _).trans (hb1.mono (by simp))
    have hsz := hbw.size
    have hs1 : w.heap.size < w1.heap.size := by have := hb1.size; simp at this; omega
    clear hb1
  · go_wp2
    go_ret
    exact ⟨by simp, hbw⟩
  · go_wp2
    go_loopw [12] (fun i wr => ∃ k : Nat, k ≤ ps.length ∧ i = .int .i64 k ∧ Hid (areIn n0 (ps.take k) = true) ∧ Below w1.heap.size w1 wr) (fun i _ => ps.length - (intOf i).toNat)
    case atStart => exact ⟨0, Nat.zero_le _, rfl, Lib.hid (by simp [areIn]), Below.refl _ _⟩
    case round =>
      obtain ⟨k, hk, rfl, ht, hbk⟩ := hrel
      have hszk := hbk.size
      have hbr : Below w.heap.size w wr := hbw.trans (hbk.mono hsz)
      by_cases hkn : k < ps.length
      · have hkn' : (k : Int) < (ps.length : Int) := by omega
        obtain ⟨x, hx⟩ : ∃ x, ps[k]? = some x := ⟨ps[k]'(by omega), List.getElem?_eq_getElem (by omega)⟩
        have d0 : wr.cell? ⟨b, k, none⟩ = some (.int .i64 x) := (hbr.cell (by exact hb)).trans (Hp.out k x hx)
        have q0r : wr.cell? ⟨w.heap.size, 0, none⟩ = some (.slice A0 n0 c0) := (hbk.cell (by exact hs1)).trans q0
        have q1r : wr.cell? ⟨w.heap.size, 1, none⟩ = some (.slice A1 n1 c1) := (hbk.cell (by exact hs1)).trans q1
        have ce := impl_exists_any A0 A1 n0 c0 n1 c1 x wr (by omega)
        have hstep : ∀ v, inRange x 0 ((n0 : Int) - 1) = v → (v = true → areIn n0 (ps.take (k + 1)) = true) ∧ (v = false → areIn n0 ps = false) := fun v hv => ⟨fun h => all_take_succ hx ht.out (by rw [hv]; exact h), fun h => all_false hx (by rw [hv]; exact h)⟩
        cases t : inRange x 0 ((n0 : Int) - 1)
        all_goals
          have H := Lib.hid (hstep _ t)
          rw [t] at ce
          clear hstep t hx
          go_wp2_with fail
          refine Calls.mono ce ?_
          rintro e w2 ⟨rfl, hb2⟩
        · go_wp2
          go_ret
          exact ⟨by rw [← Hl0.out, H.out.2 trivial]; simp, hbr.trans (hb2.mono (by omega))⟩
        · go_wp2
          go_roundw
          case rel => exact ⟨k + 1, by omega, by go_num, Lib.hid (H.out.1 trivial), hbk.trans (hb2.mono hszk)⟩
          case measure => first | (simp [intOf]; done) | (simp [intOf]; omega)
      · obtain rfl : k = ps.length := by omega
        have hv : areIn n0 ps = true := by have := ht.out; rwa [List.take_length] at this
        have Hv := Lib.hid hv
        clear hv
        go_wp2
        go_ret
        exact ⟨by rw [← Hl0.out, Hv.out]; simp, hbr⟩

def hasI (xs : List Int) (x : Int) : Bool := xs.any fun y => y == x
set_option maxRecDepth 100000 in
theorem spec_l8Has_any (A : Option Addr) (n c : Nat) (xs : List Int) (x : Int) (w : World) (lo hi : Nat) (h : Rep w lo hi (encInts xs) (.slice A n c)) (_hh : hi ≤ w.heap.size) (_hm8 : xs.length ≤ 1048576) :
    Calls Tryz.prog 59 #[.slice A n c, .int .i64 x] w fun e w' => e = .returned (.bool (hasI xs x)) ∧ w = w' := by
  have hl := Ints.n h
  obtain ⟨hc, hm⟩ := Ints.cap h
  subst hl
  go_enter Tryz.func59, Tryz.ntmps59
  go_wp2
  go_loopw [5] (fun i wr => ∃ k : Nat, k ≤ xs.length ∧ i = .int .i64 k ∧ Hid ((xs.take k).all (fun y => !(y == x)) = true) ∧ w = wr) (fun i _ => xs.length - (intOf i).toNat)
  case atStart => exact ⟨0, Nat.zero_le _, rfl, Lib.hid (by simp), rfl⟩
  case round =>
    obtain ⟨k, hk, rfl, ht, rfl⟩ := hrel
    by_cases hkn : k < xs.length
    · have hkn' : (k : Int) < (xs.length : Int) := by omega
      obtain ⟨b1, o1, y, rfl, _, _, hy, d0⟩ := Ints.at h hkn
      by_cases he : y = x
      · have hv : hasI xs x = true := List.any_eq_true.2 ⟨y, List.mem_of_getElem? hy, by simp [he]⟩
        have Hv := Lib.hid hv
        have hbe : (y == x) = true := by simp [he]
        clear hv hy
        go_wp2
        go_ret
        exact ⟨ret_bool Hv.out.symm, rfl⟩
      · have hv := all_take_succ hy ht.out (by simp [he])
        have Hv := Lib.hid hv
        have hbe : (y == x) = false := by simp [he]
        clear hv hy
        go_wp2
        go_roundw
        case rel => exact ⟨k + 1, by omega, by go_num, Hv, trivial⟩
        case measure => first | (simp [intOf]; done) | (simp [intOf]; omega)
    · obtain rfl : k = xs.length := by omega
      have hv : hasI xs x = false := by
        have := ht.out
        rw [List.take_length] at this
        unfold hasI
        rw [List.any_eq_false]
        intro y hy
        simpa using List.all_eq_true.1 this y hy
      have Hv := Lib.hid hv
      clear hv
      go_wp2
      go_ret
      exact ⟨ret_bool Hv.out.symm, rfl⟩
theorem hasI_idx (m : List Bool) (k : Nat) : hasI (idxOf m) (k : Int) = m.getD k false := by
  unfold hasI idxOf idxTo
  cases h : m.getD k false
  · rw [List.any_eq_false]
    intro y hy
    obtain ⟨j, hj, rfl⟩ := List.mem_map.1 hy
    have hj2 := (List.mem_filter.1 hj).2
    intro he
    have : j = k := by have : (j : Int) = (k : Int) := by simpa using he
                       omega
    subst this
    rw [h] at hj2; exact absurd hj2 (by simp)
  · rw [List.any_eq_true]
    have hk : k < m.length := by
      rcases Nat.lt_or_ge k m.length with hk | hk
      · exact hk
      · simp [List.getD, List.getElem?_eq_none hk] at h
    exact ⟨(k : Int), List.mem_map.2 ⟨k, List.mem_filter.2 ⟨List.mem_range.2 hk, h⟩, rfl⟩, by simp⟩
end Go.Proofs.YtenkceeicmfjhaaGreatDoor
