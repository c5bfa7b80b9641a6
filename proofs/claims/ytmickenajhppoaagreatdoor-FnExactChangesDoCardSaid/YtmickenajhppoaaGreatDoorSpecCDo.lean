import Derived.Test.YtmickenajhppoaaGreatDoorSpecTake
import Derived.Test.YtmickenajhppoaaGreatDoorDo2
import Derived.Test.YtmickenajhppoaaGreatDoorSet4
import Derived.Test.YtmickenajhppoaaGreatDoorZ39
import Derived.Test.YtmickenajhppoaaGreatDoorZ27
import Derived.Test.YtmickenajhppoaaGreatDoorZ32
/- Walks: the reference's l5Do and ChangesDo. Printed by wip/mk_specdo.py. -/
namespace Go.Proofs.YtmickenajhppoaaGreatDoor
open Go.RowKit

set_option maxRecDepth 100000 in
set_option maxHeartbeats 8000000 in
theorem spec_l5Do_any (A1 A2 : Option Addr) (n1 c1 n2 c2 : Nat) (xs : List PFile) (ys : List PChange) (w : World) (lo hi lo' hi' : Nat) (h1 : Rep w lo hi (encFiles xs) (.slice A1 n1 c1)) (h2 : Rep w lo' hi' (encChanges ys) (.slice A2 n2 c2)) (hh1 : hi ≤ w.heap.size) (hh2 : hi' ≤ w.heap.size) (hlo : lo ≤ w.heap.size)
    (ht : treeOk xs = true) (hokT : okTree xs) (hc : changesOk ys = true) (hsm : ∀ x ∈ ys, x.path.length ≤ 1073741824 ∧ x.dest.length ≤ 1073741824) (hys : ∀ x ∈ ys, okChange x) :
    Calls Tryz.prog 19 #[.slice A1 n1 c1, .slice A2 n2 c2] w fun e w' => ∃ A n c, e = .returned (.tuple #[.slice A n c, .bool (if ys.all (takeOk xs) = true then lastOk (putAll xs ys (takes xs ys)) else none).isSome]) ∧ Below w.heap.size w w' ∧
      Rep w' 0 w'.heap.size (encFiles ((if ys.all (takeOk xs) = true then lastOk (putAll xs ys (takes xs ys)) else none).getD [])) (.slice A n c) := by
  have hl1 := Files.n h1
  have hl2 := Changes.n h2
  obtain ⟨hc1, hm1⟩ := Files.cap h1
  obtain ⟨hc2, hm2⟩ := Changes.cap h2
  subst hl1 hl2
  have h8 := (treeOk_iff.1 ht).1
  have hcp : ys.length ≤ 16 ∧ ∀ y ∈ ys, changeOk y = true := by
    unfold changesOk at hc
    simp only [Bool.and_eq_true, decide_eq_true_eq, List.all_eq_true] at hc
    exact ⟨hc.1, hc.2.1⟩
  have h16 := hcp.1
  have Hco := Lib.hid hcp.2
  have HT := Lib.hid ht
  have Hsm := Lib.hid hsm
  have Hys := Lib.hid hys
  have HokT := Lib.hid hokT
  have htk := spec_l5Take_any A1 A2 xs.length c1 ys.length c2 xs ys w lo hi lo' hi' h1 h2 hh1 hh2 hlo h8 h16
  obtain ⟨T, hT⟩ : ∃ T, T = takes xs ys := ⟨_, rfl⟩
  have HTa := Lib.hid (show ascT T by rw [hT]; exact takes_asc ys xs (ascT_of ht))
  have hTl : T.length ≤ 8 := by rw [hT]; exact Nat.le_trans (takes_len ys xs) h8
  have HTo := Lib.hid (show okTree T from fun y hy => hokT y (takes_sub ys xs y (hT ▸ hy)))
  rw [← hT] at htk ⊢
  have Hall := Lib.hid (fun (k : Nat) (x : PChange) (hx : ys[k]? = some x) (h9 : ys.all (takeOk xs) = true) => List.all_eq_true.1 h9 x (List.mem_of_getElem? hx))
  obtain ⟨okA, hokA⟩ : ∃ okA, okA = ys.all (takeOk xs) := ⟨_, rfl⟩
  rw [← hokA] at htk Hall ⊢
  clear hT ht hc hcp hsm hys hokT hokA
  obtain ⟨v, hv⟩ : ∃ v, v = (if okA = true then lastOk (putAll xs ys T) else none) := ⟨_, rfl⟩
  rw [← hv]
  cases okA with
  | false =>
    have Hv := Lib.hid (show v = none from hv)
    clear hv
    go_enter Tryz.func19, Tryz.ntmps19
    go_wp2_with fail
    refine Calls.mono htk ?_
    rintro e w1 ⟨A5, n5, c5, rfl, hb1, _⟩
    go_wp2
    go_ret2
    exact ⟨none, 0, 0, by rw [Hv.out]; rfl, hb1, by rw [Hv.out]; exact (Fresh.nil _ 0 _ _ _).rep⟩
  | true =>
    have Hv := Lib.hid (show v = lastOk (putAll xs ys T) from hv)
    have Hal := Lib.hid (fun k x hx => Hall.out k x hx rfl)
    clear hv Hall
    go_enter Tryz.func19, Tryz.ntmps19
    go_wp2_with fail
    refine Calls.mono htk ?_
    rintro e w1 ⟨A5, n5, c5, rfl, hb1, hR1⟩
    have hs1 := hb1.size
    have hR1' : Rep w1 0 w1.heap.size (encFiles T) (.slice A5 n5 c5) := (hR1 (by first | rfl | trivial)).mono (Nat.zero_le _) (Nat.le_refl _)
    clear htk hR1
    go_wp2
    go_loopw [6, 8] (fun t i wr => ∃ (k : Nat) (o : List PFile) (A' : Option Addr) (n' c' : Nat), k ≤ ys.length ∧ t = .slice A' n' c' ∧ i = .int .i64 k ∧ Hid (putAll xs ys T = putAll xs (ys.drop k) o) ∧ ascT o ∧ o.length ≤ 8 + k ∧ Hid (okTree o) ∧ Rep wr 0 wr.heap.size (encFiles o) (.slice A' n' c') ∧ Below w.heap.size w wr) (fun _ i _ => ys.length - (intOf i).toNat)
    case atStart => exact ⟨0, T, A5, n5, c5, Nat.zero_le _, rfl, rfl, Lib.hid rfl, HTa.out, by omega, HTo, hR1', hb1⟩
    case round =>
      clear hR1' hb1 hs1
      obtain ⟨k, o, A', n', c', hk, rfl, rfl, hpu, hasc, hol, Hok, hRo, hb⟩ := hrel
      have hsz := hb.size
      have hno := Files.n hRo
      obtain ⟨hco, hmo⟩ := Files.cap hRo
      subst hno
      obtain ⟨wo, rfl⟩ : ∃ wo : World, wo = wr := ⟨_, rfl⟩
      by_cases hkn : k < ys.length
      · have hkn' : (k : Int) < (ys.length : Int) := by omega
        obtain ⟨b1, o1, x, rfl, _, hbhi, hx, A3, n3, c3, A4, n4, c4, d0, d1, d2, d3, r3, d4, r4⟩ := Changes.at (h2.keep hb hh2) hkn
        have hn3 := Text.n r3
        have hn4 := Hunks.n r4
        subst hn3 hn4
        have Hst0 := Lib.hid (putAll_next (t := xs) hx o)
        have hxm := List.mem_of_getElem? hx
        have hkinds := changeOk_kinds (Hco.out x hxm)
        have hps := Hsm.out x hxm
        have Htk := Lib.hid (Hal.out k x hx)
        have Hoc := Lib.hid (Hys.out x hxm)
        clear hx hxm
        obtain ⟨W, hW⟩ : ∃ W : World, W = (wo.alloc (.cells #[.int .i64 x.kind, .string ⟨x.path.toArray⟩, .string ⟨x.dest.toArray⟩, .slice A3 x.text.length c3, .slice A4 x.patch.length c4] 52)).alloc (.cells #[.string ⟨x.path.toArray⟩, .slice A3 x.text.length c3] 48) := ⟨_, rfl⟩
        have hbW : Below wo.heap.size wo W := by rw [hW]; exact ((Below.refl _ _).alloc (Nat.le_refl _) _).alloc (by simp) _
        have hWlt : wo.heap.size + 1 < W.heap.size := by rw [hW]; simp
        have p0 : W.cell? ⟨wo.heap.size, 0, none⟩ = some (.int .i64 x.kind) := by rw [hW]; simp [go_sem]
        have p1 : W.cell? ⟨wo.heap.size, 1, none⟩ = some (.string ⟨x.path.toArray⟩) := by rw [hW]; simp [go_sem]
        have p2 : W.cell? ⟨wo.heap.size, 2, none⟩ = some (.string ⟨x.dest.toArray⟩) := by rw [hW]; simp [go_sem]
        have p4 : W.cell? ⟨wo.heap.size, 4, none⟩ = some (.slice A4 x.patch.length c4) := by rw [hW]; simp [go_sem]
        have hrow : W.heap[wo.heap.size + 1]? = some (Obj.cells #[.string ⟨x.path.toArray⟩, .slice A3 x.text.length c3] 48) := by
          rw [hW]
          have h9 := heap_new' (wo.alloc (.cells #[.int .i64 x.kind, .string ⟨x.path.toArray⟩, .string ⟨x.dest.toArray⟩, .slice A3 x.text.length c3, .slice A4 x.patch.length c4] 52)) (.cells #[.string ⟨x.path.toArray⟩, .slice A3 x.text.length c3] 48)
          simpa using h9
        have hhi : hi ≤ wo.heap.size := by omega
        have hget := spec_l4Get_any A1 xs.length c1 xs x.path W lo hi ((h1.keep hb hh1).keep hbW hhi)
        have r3W : Rep W lo' hi' (encText x.text) (.slice A3 x.text.length c3) := r3.keep hbW (by omega)
        have r4W : Rep W lo' hi' (encHunks x.patch) (.slice A4 x.patch.length c4) := r4.keep hbW (by omega)
        go_upto_region 9 with fail
        rw [← hW]
        clear hW d0 d1 d2 d3 d4 r3 r4
        obtain ⟨r, hr⟩ : ∃ r, r = getAt xs x.path := ⟨_, rfl⟩
        have Hold := Lib.hid (show oldAt xs x = r.getD [] by unfold oldAt; rw [hr])
        have Hrt := Lib.hid (fun y (h9 : r = some y) => getAt_textOk HT.out (hr ▸ h9 : getAt xs x.path = some y))
        rw [← hr] at hget
        have Hget := Lib.hid hr
        clear hr
        obtain ⟨kn, hkn9⟩ : ∃ kn, kn = r.isSome := ⟨_, rfl⟩
        rw [← hkn9] at hget
        clear hkn9
        have hsW := hbW.size
        have hbWw : Below w.heap.size w W := hb.trans (hbW.mono hsz)
        obtain ⟨z0, z1, zf⟩ := row_cells hrow
        go_wp2_with fail
        refine Calls.mono hget ?_
        rintro e w5 ⟨A5, n5, c5, rfl, rfl, r5⟩
        clear hget
        have hn5 := Text.n r5
        subst hn5
        have hrl : (r.getD []).length ≤ 10 := by
          cases r with
          | none => simp
          | some y => exact textOk_len (Hrt.out y rfl)
        rcases hkinds with ⟨hk1, htx⟩ | hk2 | ⟨hk3, hpo⟩ | hk4
        · -- an addition
          have kb1 : (x.kind == 2) = false := by simp [hk1]
          have kb2 : (x.kind == 3) = false := by simp [hk1]
          have kb3 : (x.kind == 4) = false := by simp [hk1]
          obtain ⟨f, hf⟩ : ∃ f : PFile, f = ⟨x.path, x.text⟩ := ⟨_, rfl⟩
          have Hst := Lib.hid (show putAll xs (ys.drop k) o = if hasF o f.path = true then none else putAll xs (ys.drop (k + 1)) (setF o f) by rw [Hst0.out, if_neg (by omega)]; unfold fileOf; rw [if_pos hk1, hf])
          have Hfok := Lib.hid (show f.path.length ≤ 1073741824 ∧ ∀ s ∈ f.text, s.length ≤ 9223372036854775807 by rw [hf]; exact ⟨hps.1, textOk_len1 htx⟩)
          have hft : f.text.length ≤ 1048576 := by rw [hf]; have := textOk_len htx; show x.text.length ≤ _; omega
          obtain ⟨Af, nf, cf, hAf⟩ : ∃ Af nf cf, (Value.slice Af nf cf) = .slice A3 x.text.length c3 := ⟨_, _, _, rfl⟩
          have hfp : f.path = x.path := by rw [hf]
          have rV : Rep W lo' hi' (encText f.text) (.slice Af nf cf) := by rw [hAf, hf]; exact r3W
          rw [← hAf] at z1
          rw [← hfp] at z0
          obtain ⟨lo9, hi9, hi9V, rV⟩ : ∃ lo9 hi9, hi9 ≤ W.heap.size ∧ Rep W lo9 hi9 (encText f.text) (.slice Af nf cf) := ⟨lo', hi', by omega, rV⟩
          have hbV := hbW
          clear hk1 hf hAf hfp htx hrow zf p4 p2
          go_upto_region 19 with fail
          have hgo := spec_l4Get_any A' o.length c' o f.path W 0 wo.heap.size (hRo.keep hbV (Nat.le_refl _))
          have hsV := hbV.size
          rw [hasF_get] at hgo
          obtain ⟨hf9, hhf9⟩ : ∃ hf9, hf9 = hasF o f.path := ⟨_, rfl⟩
          rw [← hhf9] at hgo
          have Hhf := Lib.hid hhf9
          clear hhf9
          go_wp2_with fail
          refine Calls.mono hgo ?_
          rintro e w9 ⟨A9, n9, c9, rfl, rfl, _⟩
          clear hgo
          cases hf9 with
          | true =>
            have Hn := Lib.hid (show v = none by rw [Hv.out, hpu.out, Hst.out, ← Hhf.out]; rfl)
            go_wp2
            go_ret2
            exact ⟨none, 0, 0, by rw [Hn.out]; rfl, hb.trans (hbV.mono hsz), by rw [Hn.out]; exact (Fresh.nil _ 0 _ _ _).rep⟩
          | false =>
            have Hst2 := Lib.hid (show putAll xs (ys.drop k) o = putAll xs (ys.drop (k + 1)) (setF o f) by rw [Hst.out, ← Hhf.out]; rfl)
            have hset := spec_l4Set_any A' Af o.length c' nf cf o f W 0 wo.heap.size lo9 hi9 (hRo.keep hbV (Nat.le_refl _)) rV (Nat.zero_le _) hsV hi9V (by omega) hft
            have hlen := setF_len hasc f
            have hif : (if hasF o f.path = true then 0 else 1) ≤ 1 := by split <;> omega
            have Hlen := Lib.hid (show (setF o f).length ≤ 8 + (k + 1) by rw [hlen]; omega)
            have Hasc := Lib.hid (setF_asc hasc f)
            have Hok2 := Lib.hid (show okTree (setF o f) from fun y hy => (setF_mem hy).elim (fun e => e ▸ Hfok.out) (fun h9 => Hok.out y h9))
            clear hlen hif
            go_wp2_with fail
            refine Calls.mono hset ?_
            rintro e w9 ⟨A9, n9, c9, rfl, hb9, hR9⟩
            have hbz := hb.trans ((hbV.trans (hb9.mono hsV)).mono hsz)
            have HR9 := Lib.hid hR9
            clear hset hR9 hb9
            go_wp2
            go_roundw
            case rel => exact ⟨k + 1, setF o f, _, _, _, by omega, rfl, by go_num, Lib.hid (by rw [hpu.out, Hst2.out]), Hasc.out, Hlen.out, Hok2, HR9.out, hbz⟩
            case measure => simp [intOf]; omega
        · -- a drop
          have kb1 : (x.kind == 2) = true := by simp [hk2]
          have Hst := Lib.hid (show putAll xs (ys.drop k) o = putAll xs (ys.drop (k + 1)) o by rw [Hst0.out, if_pos hk2])
          clear hk2
          go_wp2
          go_roundw
          case rel => exact ⟨k + 1, o, A', _, c', by omega, rfl, by go_num, Lib.hid (by rw [hpu.out, Hst.out]), hasc, by omega, Hok, (hRo.keep hbW (Nat.le_refl _)).mono (Nat.le_refl _) hsW, hbWw⟩
          case measure => simp [intOf]; omega
        · -- an edit
          have kb1 : (x.kind == 2) = false := by simp [hk3]
          have kb2 : (x.kind == 3) = true := by simp [hk3]
          have kb3 : (x.kind == 4) = false := by simp [hk3]
          obtain ⟨y, hy, _⟩ := takeOk_get Htk.out (by omega)
          have hry : r = some y := by rw [Hget.out, hy]
          have hyo := Hrt.out y hry
          have hdo := spec_l2Do_any A5 A4 (r.getD []).length c5 x.patch.length c4 (r.getD []) x.patch W lo hi lo' hi' r5 r4W (by omega) (by omega) (by rw [hry]; exact textOk_len1 hyo) (fun h9 hh9 => Hoc.out.2.2.2.2 h9 hh9) (by rw [hry]; exact hyo) hpo
          obtain ⟨pd, hpd⟩ : ∃ pd, pd = patchDo (r.getD []) x.patch := ⟨_, rfl⟩
          rw [← hpd] at hdo
          have Hfo := Lib.hid (show fileOf xs x = pd.map (fun t => ⟨x.path, t⟩) by unfold fileOf; rw [if_neg (by omega), if_pos hk3, Hold.out, hpd])
          have Hpd := Lib.hid (fun t (h9 : pd = some t) => patchDo_textOk (hpd ▸ h9 : patchDo (r.getD []) x.patch = some t))
          have Hk3 := Lib.hid hk3
          clear hy hry hyo hpo hk3 hpd
          go_wp2_with fail
          refine Calls.mono hdo ?_
          rintro e w6 ⟨A6, n6, c6, rfl, hb6, hf6⟩
          have hs6 := hb6.size
          have hb6o : Below wo.heap.size wo w6 := hbW.trans (hb6.mono hsW)
          clear hdo
          cases pd with
          | none =>
            have Hn := Lib.hid (show v = none by rw [Hv.out, hpu.out, Hst0.out, if_neg (by rw [Hk3.out]; omega), Hfo.out]; rfl)
            simp only [Option.isSome_none]
            go_wp2
            go_ret2
            exact ⟨none, 0, 0, by rw [Hn.out]; rfl, hb.trans (hb6o.mono hsz), by rw [Hn.out]; exact (Fresh.nil _ 0 _ _ _).rep⟩
          | some t =>
            have hn6 := Text.n hf6.rep
            rw [Option.getD_some] at hf6 hn6
            subst hn6
            have hto := Hpd.out t rfl
            have hrow6 := (hb6.block (wo.heap.size + 1) (by omega)).trans hrow
            obtain ⟨y0, y1, yf⟩ := row_cells hrow6
            have p06 : w6.cell? ⟨wo.heap.size, 0, none⟩ = some (.int .i64 x.kind) := keepAt hb6 (by omega) p0
            obtain ⟨V, hV⟩ : ∃ V : World, V = w6.setCell ⟨wo.heap.size + 1, 1, none⟩ (.slice A6 t.length c6) := ⟨_, rfl⟩
            have hbV : Below wo.heap.size wo V := by rw [hV]; exact hb6o.setCell (by show wo.heap.size ≤ wo.heap.size + 1; omega) _
            have hVs : V.heap.size = w6.heap.size := by rw [hV]; simp
            obtain ⟨f, hf⟩ : ∃ f : PFile, f = ⟨x.path, t⟩ := ⟨_, rfl⟩
            have hrowV : V.heap[wo.heap.size + 1]? = some (Obj.cells #[.string ⟨x.path.toArray⟩, .slice A6 t.length c6] 48) := by rw [hV]; exact heap_setCell_same w6 (wo.heap.size + 1) 1 _ _ _ hrow6
            obtain ⟨z0', z1', zf'⟩ := row_cells hrowV
            have rV0 : Rep V W.heap.size w6.heap.size (encText t) (.slice A6 t.length c6) := by rw [hV]; exact hf6.rep.same ((Same.refl _ _ _).setCell (.inl (by show wo.heap.size + 1 < W.heap.size; omega)) _)
            have hfp : f.path = x.path := by rw [hf]
            have Hst := Lib.hid (show putAll xs (ys.drop k) o = if hasF o f.path = true then none else putAll xs (ys.drop (k + 1)) (setF o f) by rw [Hst0.out, if_neg (by rw [Hk3.out]; omega), Hfo.out, hf]; rfl)
            have Hfok := Lib.hid (show f.path.length ≤ 1073741824 ∧ ∀ s ∈ f.text, s.length ≤ 9223372036854775807 by rw [hf]; exact ⟨hps.1, textOk_len1 hto⟩)
            have hft : f.text.length ≤ 1048576 := by rw [hf]; have := textOk_len hto; show t.length ≤ _; omega
            obtain ⟨Af, nf, cf, hAf⟩ : ∃ Af nf cf, (Value.slice Af nf cf) = .slice A6 t.length c6 := ⟨_, _, _, rfl⟩
            obtain ⟨lo9, hi9, hi9V, rV⟩ : ∃ lo9 hi9, hi9 ≤ V.heap.size ∧ Rep V lo9 hi9 (encText f.text) (.slice Af nf cf) := ⟨W.heap.size, w6.heap.size, by omega, by rw [hAf, hf]; exact rV0⟩
            rw [← hAf] at z1'
            rw [← hfp] at z0'
            clear hf hAf hfp hto rV0 hf6 hrow hrow6 hrowV z0 z1 zf p0 p1 p2 p4 hb6
            simp only [Option.isSome_some]
            go_upto_region 19 with fail
            rw [← hV]
            clear hV y0 y1 yf p06 zf'
            have hgo := spec_l4Get_any A' o.length c' o f.path V 0 wo.heap.size (hRo.keep hbV (Nat.le_refl _))
            have hsV := hbV.size
            rw [hasF_get] at hgo
            obtain ⟨hf9, hhf9⟩ : ∃ hf9, hf9 = hasF o f.path := ⟨_, rfl⟩
            rw [← hhf9] at hgo
            have Hhf := Lib.hid hhf9
            clear hhf9
            go_wp2_with fail
            refine Calls.mono hgo ?_
            rintro e w9 ⟨A9, n9, c9, rfl, rfl, _⟩
            clear hgo
            cases hf9 with
            | true =>
              have Hn := Lib.hid (show v = none by rw [Hv.out, hpu.out, Hst.out, ← Hhf.out]; rfl)
              go_wp2
              go_ret2
              exact ⟨none, 0, 0, by rw [Hn.out]; rfl, hb.trans (hbV.mono hsz), by rw [Hn.out]; exact (Fresh.nil _ 0 _ _ _).rep⟩
            | false =>
              have Hst2 := Lib.hid (show putAll xs (ys.drop k) o = putAll xs (ys.drop (k + 1)) (setF o f) by rw [Hst.out, ← Hhf.out]; rfl)
              have hset := spec_l4Set_any A' Af o.length c' nf cf o f V 0 wo.heap.size lo9 hi9 (hRo.keep hbV (Nat.le_refl _)) rV (Nat.zero_le _) hsV hi9V (by omega) hft
              have hlen := setF_len hasc f
              have hif : (if hasF o f.path = true then 0 else 1) ≤ 1 := by split <;> omega
              have Hlen := Lib.hid (show (setF o f).length ≤ 8 + (k + 1) by rw [hlen]; omega)
              have Hasc := Lib.hid (setF_asc hasc f)
              have Hok2 := Lib.hid (show okTree (setF o f) from fun y hy => (setF_mem hy).elim (fun e => e ▸ Hfok.out) (fun h9 => Hok.out y h9))
              clear hlen hif
              go_wp2_with fail
              refine Calls.mono hset ?_
              rintro e w9 ⟨A9, n9, c9, rfl, hb9, hR9⟩
              have hbz := hb.trans ((hbV.trans (hb9.mono hsV)).mono hsz)
              have HR9 := Lib.hid hR9
              clear hset hR9 hb9
              go_wp2
              go_roundw
              case rel => exact ⟨k + 1, setF o f, _, _, _, by omega, rfl, by go_num, Lib.hid (by rw [hpu.out, Hst2.out]), Hasc.out, Hlen.out, Hok2, HR9.out, hbz⟩
              case measure => simp [intOf]; omega
        · -- a move
          have kb1 : (x.kind == 2) = false := by simp [hk4]
          have kb2 : (x.kind == 3) = false := by simp [hk4]
          have kb3 : (x.kind == 4) = true := by simp [hk4]
          obtain ⟨V, hV⟩ : ∃ V : World, V = (W.setCell ⟨wo.heap.size + 1, 0, none⟩ (.string ⟨x.dest.toArray⟩)).setCell ⟨wo.heap.size + 1, 1, none⟩ (.slice A5 (r.getD []).length c5) := ⟨_, rfl⟩
          have hbV : Below wo.heap.size wo V := by rw [hV]; exact (hbW.setCell (by show wo.heap.size ≤ wo.heap.size + 1; omega) _).setCell (by show wo.heap.size ≤ wo.heap.size + 1; omega) _
          have hVs : V.heap.size = W.heap.size := by rw [hV]; simp
          have hrowV : V.heap[wo.heap.size + 1]? = some (Obj.cells #[.string ⟨x.dest.toArray⟩, .slice A5 (r.getD []).length c5] 48) := by
            rw [hV]
            exact heap_setCell_same _ (wo.heap.size + 1) 1 _ _ _ (heap_setCell_same W (wo.heap.size + 1) 0 _ _ _ hrow)
          obtain ⟨z0', z1', zf'⟩ := row_cells hrowV
          obtain ⟨f, hf⟩ : ∃ f : PFile, f = ⟨x.dest, r.getD []⟩ := ⟨_, rfl⟩
          have hfp : f.path = x.dest := by rw [hf]
          have hfo : fileOf xs x = some f := by unfold fileOf; rw [if_neg (by omega), if_neg (by omega), Hold.out, hf]
          have Hst := Lib.hid (show putAll xs (ys.drop k) o = if hasF o f.path = true then none else putAll xs (ys.drop (k + 1)) (setF o f) by rw [Hst0.out, if_neg (by omega), hfo])
          have Hfok := Lib.hid (show f.path.length ≤ 1073741824 ∧ ∀ s ∈ f.text, s.length ≤ 9223372036854775807 by
            rw [hf]
            refine ⟨hps.2, ?_⟩
            cases r with
            | none => intro s hs; cases hs
            | some y => exact textOk_len1 (Hrt.out y rfl))
          have hft : f.text.length ≤ 1048576 := by rw [hf]; show (r.getD []).length ≤ _; omega
          have rV0 : Rep V lo hi (encText (r.getD [])) (.slice A5 (r.getD []).length c5) := by
            rw [hV]
            exact r5.same (((Same.refl _ _ _).setCell (.inr (by show hi ≤ wo.heap.size + 1; omega)) _).setCell (.inr (by show hi ≤ wo.heap.size + 1; omega)) _)
          obtain ⟨Af, nf, cf, hAf⟩ : ∃ Af nf cf, (Value.slice Af nf cf) = .slice A5 (r.getD []).length c5 := ⟨_, _, _, rfl⟩
          obtain ⟨lo9, hi9, hi9V, rV⟩ : ∃ lo9 hi9, hi9 ≤ V.heap.size ∧ Rep V lo9 hi9 (encText f.text) (.slice Af nf cf) := ⟨lo, hi, by omega, by rw [hAf, hf]; exact rV0⟩
          rw [← hAf] at z1'
          rw [← hfp] at z0'
          clear hf hAf hfp hfo rV0 hrow hrowV hk4
          go_upto_region 19 with fail
          rw [← hV]
          clear hV z0 z1 zf zf' p0 p1 p2 p4
          have hgo := spec_l4Get_any A' o.length c' o f.path V 0 wo.heap.size (hRo.keep hbV (Nat.le_refl _))
          have hsV := hbV.size
          rw [hasF_get] at hgo
          obtain ⟨hf9, hhf9⟩ : ∃ hf9, hf9 = hasF o f.path := ⟨_, rfl⟩
          rw [← hhf9] at hgo
          have Hhf := Lib.hid hhf9
          clear hhf9
          go_wp2_with fail
          refine Calls.mono hgo ?_
          rintro e w9 ⟨A9, n9, c9, rfl, rfl, _⟩
          clear hgo
          cases hf9 with
          | true =>
            have Hn := Lib.hid (show v = none by rw [Hv.out, hpu.out, Hst.out, ← Hhf.out]; rfl)
            go_wp2
            go_ret2
            exact ⟨none, 0, 0, by rw [Hn.out]; rfl, hb.trans (hbV.mono hsz), by rw [Hn.out]; exact (Fresh.nil _ 0 _ _ _).rep⟩
          | false =>
            have Hst2 := Lib.hid (show putAll xs (ys.drop k) o = putAll xs (ys.drop (k + 1)) (setF o f) by rw [Hst.out, ← Hhf.out]; rfl)
            have hset := spec_l4Set_any A' Af o.length c' nf cf o f V 0 wo.heap.size lo9 hi9 (hRo.keep hbV (Nat.le_refl _)) rV (Nat.zero_le _) hsV hi9V (by omega) hft
            have hlen := setF_len hasc f
            have hif : (if hasF o f.path = true then 0 else 1) ≤ 1 := by split <;> omega
            have Hlen := Lib.hid (show (setF o f).length ≤ 8 + (k + 1) by rw [hlen]; omega)
            have Hasc := Lib.hid (setF_asc hasc f)
            have Hok2 := Lib.hid (show okTree (setF o f) from fun y hy => (setF_mem hy).elim (fun e => e ▸ Hfok.out) (fun h9 => Hok.out y h9))
            clear hlen hif
            go_wp2_with fail
            refine Calls.mono hset ?_
            rintro e w9 ⟨A9, n9, c9, rfl, hb9, hR9⟩
            have hbz := hb.trans ((hbV.trans (hb9.mono hsV)).mono hsz)
            have HR9 := Lib.hid hR9
            clear hset hR9 hb9
            go_wp2
            go_roundw
            case rel => exact ⟨k + 1, setF o f, _, _, _, by omega, rfl, by go_num, Lib.hid (by rw [hpu.out, Hst2.out]), Hasc.out, Hlen.out, Hok2, HR9.out, hbz⟩
            case measure => simp [intOf]; omega
      · obtain rfl : k = ys.length := by omega
        have hfin : putAll xs ys T = some o := by rw [hpu.out, List.drop_length]; rfl
        have Hvl := Lib.hid (show v = if treeOk o = true then some o else none by rw [Hv.out, hfin]; rfl)
        have hq := spec_l4Ok_any A' o.length c' o wo _ _ hRo (Nat.le_refl _) Hok.out
        obtain ⟨tk, htk⟩ : ∃ tk, tk = treeOk o := ⟨_, rfl⟩
        rw [← htk] at hq Hvl
        clear htk hfin hpu
        go_wp2_with fail
        refine Calls.mono hq ?_
        rintro e w6 ⟨rfl, hb6⟩
        have hbz := hb.trans (hb6.mono hsz)
        have hR6 := (hRo.keep hb6 (Nat.le_refl _)).mono (Nat.le_refl _) hb6.size
        have HR6 := Lib.hid hR6
        clear hq hb6 hR6 hRo
        cases tk with
        | true =>
          have Hn := Lib.hid (show v = some o from Hvl.out)
          go_wp2
          go_ret2
          exact ⟨_, _, _, by rw [Hn.out]; rfl, hbz, by rw [Hn.out]; exact HR6.out⟩
        | false =>
          have Hn := Lib.hid (show v = none from Hvl.out)
          go_wp2
          go_ret2
          exact ⟨none, 0, 0, by rw [Hn.out]; rfl, hbz, by rw [Hn.out]; exact (Fresh.nil _ 0 _ _ _).rep⟩

set_option maxRecDepth 100000 in
set_option maxHeartbeats 2000000 in
theorem spec_ChangesDo_any (A1 A2 : Option Addr) (n1 c1 n2 c2 : Nat) (xs : List PFile) (ys : List PChange) (w : World) (lo hi lo' hi' : Nat) (h1 : Rep w lo hi (encFiles xs) (.slice A1 n1 c1)) (h2 : Rep w lo' hi' (encChanges ys) (.slice A2 n2 c2)) (hh1 : hi ≤ w.heap.size) (hh2 : hi' ≤ w.heap.size) (ht1 : okTree xs) (hz2 : szChanges ys ≤ 1048576) (hs2 : ∀ x ∈ ys, okChange x) :
    Calls Tryz.prog 6 #[.slice A1 n1 c1, .slice A2 n2 c2] w fun e w' => ∃ A n c, e = .returned (.tuple #[.slice A n c, .bool (changesDo xs ys).isSome]) ∧ Below w.heap.size w w' ∧ Rep w' 0 w'.heap.size (encFiles ((changesDo xs ys).getD [])) (.slice A n c) := by
  have q1 := spec_l4Ok_any A1 n1 c1 xs w lo hi h1 hh1 ht1
  have q2 := fun w' (hb : Below w.heap.size w w') => spec_l5Ok_any A2 n2 c2 ys w' lo' hi' (h2.keep hb hh2) (Nat.le_trans hh2 hb.size) hz2 hs2
  obtain ⟨v, hv⟩ : ∃ v, v = changesDo xs ys := ⟨_, rfl⟩
  rw [← hv]
  unfold changesDo at hv
  cases e1 : treeOk xs with
  | false =>
    rw [e1] at q1 hv
    have Hv := Lib.hid (show v = none from hv)
    clear hv e1 q2
    go_enter Tryz.func6, Tryz.ntmps6
    go_wp2_with fail
    refine Calls.mono q1 ?_
    rintro e w1 ⟨rfl, hb1⟩
    go_wp2
    go_ret2
    exact ⟨none, 0, 0, by rw [Hv.out]; rfl, hb1, by rw [Hv.out]; exact (Fresh.nil _ 0 _ _ _).rep⟩
  | true =>
    rw [e1] at q1
    cases e2 : changesOk ys with
    | false =>
      rw [e2] at q2
      rw [e1, e2] at hv
      have Hv := Lib.hid (show v = none from hv)
      clear hv e1 e2
      go_enter Tryz.func6, Tryz.ntmps6
      go_wp2_with fail
      refine Calls.mono q1 ?_
      rintro e w1 ⟨rfl, hb1⟩
      go_wp2_with fail
      refine Calls.mono (q2 w1 hb1) ?_
      rintro e w2 ⟨rfl, hb2⟩
      go_wp2
      go_ret2
      exact ⟨none, 0, 0, by rw [Hv.out]; rfl, hb1.trans (hb2.mono hb1.size), by rw [Hv.out]; exact (Fresh.nil _ 0 _ _ _).rep⟩
    | true =>
      rw [e2] at q2
      rw [e1, e2] at hv
      have Hv := Lib.hid (show v = if ys.all (takeOk xs) = true then lastOk (putAll xs ys (takes xs ys)) else none from hv)
      have E1 := Lib.hid e1
      have E2 := Lib.hid e2
      have Hz := Lib.hid (small_changes hz2)
      have HT := Lib.hid ht1
      have Hs := Lib.hid hs2
      have hcopy := fun w' (hb : Below w.heap.size w w') => spec_l4Copy_any A1 n1 c1 xs w' lo hi (h1.keep hb hh1) (Nat.le_trans hh1 hb.size) (smallTree_ok e1)
      clear hv e1 e2 ht1 hz2 hs2
      go_enter Tryz.func6, Tryz.ntmps6
      go_wp2_with fail
      refine Calls.mono q1 ?_
      rintro e w1 ⟨rfl, hb1⟩
      go_wp2_with fail
      refine Calls.mono (q2 w1 hb1) ?_
      rintro e w2 ⟨rfl, hb2⟩
      have hb12 : Below w.heap.size w w2 := hb1.trans (hb2.mono hb1.size)
      go_wp2_with fail
      refine Calls.mono (hcopy w2 hb12) ?_
      rintro e w3 ⟨A3, n3, c3, rfl, hb3, hf3⟩
      have hb13 : Below w.heap.size w w3 := hb12.trans (hb3.mono hb12.size)
      have hdo := spec_l5Do_any A3 A2 n3 c3 n2 c2 xs ys w3 _ _ lo' hi' hf3.rep (h2.keep hb13 hh2) (Nat.le_refl _) (Nat.le_trans hh2 hb13.size) hb3.size E1.out HT.out E2.out Hz.out Hs.out
      rw [← Hv.out] at hdo
      clear q1 q2 hcopy hb1 hb2 hf3
      go_wp2_with fail
      refine Calls.mono hdo ?_
      rintro e w4 ⟨A4, n4, c4, rfl, hb4, hR4⟩
      have HR4 := Lib.hid hR4
      have hbz := hb13.trans (hb4.mono hb13.size)
      clear hdo hR4 hb4
      go_wp2
      go_ret2
      exact ⟨_, _, _, rfl, hbz, HR4.out⟩
end Go.Proofs.YtmickenajhppoaaGreatDoor
