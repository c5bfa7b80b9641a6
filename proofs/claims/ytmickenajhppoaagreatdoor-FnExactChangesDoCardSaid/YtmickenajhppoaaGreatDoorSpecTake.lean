import Derived.Test.YtmickenajhppoaaGreatDoorZ32
import Derived.Test.YtmickenajhppoaaGreatDoorZ10
import Derived.Test.YtmickenajhppoaaGreatDoorZ12
import Derived.Test.YtmickenajhppoaaGreatDoorAppend
/- Walk: the reference's l5Take. -/
namespace Go.Proofs.YtmickenajhppoaaGreatDoor
open Go.RowKit

theorem filter_nextC {o : List PFile} {m : Nat} {f : PFile} {q : PFile → Bool} (h : o[m]? = some f) : (o.take (m + 1)).filter q = (o.take m).filter q ++ (if q f = true then [f] else []) := by
  rw [List.take_add_one, h, List.filter_append]
  congr 1
  by_cases hq : q f = true
  · simp [hq]
  · simp [hq]

set_option maxRecDepth 100000 in
set_option maxHeartbeats 4000000 in
theorem spec_l5Take_any (A1 A2 : Option Addr) (n1 c1 n2 c2 : Nat) (xs : List PFile) (ys : List PChange) (w : World) (lo hi lo' hi' : Nat) (h1 : Rep w lo hi (encFiles xs) (.slice A1 n1 c1)) (h2 : Rep w lo' hi' (encChanges ys) (.slice A2 n2 c2)) (hh1 : hi ≤ w.heap.size) (hh2 : hi' ≤ w.heap.size) (hlo : lo ≤ w.heap.size)
    (h8 : xs.length ≤ 8) (h16 : ys.length ≤ 16) :
    Calls Tryz.prog 45 #[.slice A1 n1 c1, .slice A2 n2 c2] w fun e w' => ∃ A n c, e = .returned (.tuple #[.slice A n c, .bool (ys.all (takeOk xs))]) ∧ Below w.heap.size w w' ∧ (ys.all (takeOk xs) = true → Rep w' lo w'.heap.size (encFiles (takes xs ys)) (.slice A n c)) := by
  have hl1 := Files.n h1
  have hl2 := Changes.n h2
  obtain ⟨hc1, hm1⟩ := Files.cap h1
  obtain ⟨hc2, hm2⟩ := Changes.cap h2
  subst hl1 hl2
  obtain ⟨ih, gi0, gi1, gi2, gi3⟩ := info_parts Tryz.infoFile
  obtain ⟨v, hv⟩ : ∃ v, v = ys.all (takeOk xs) := ⟨_, rfl⟩
  rw [← hv]
  have Hv := Lib.hid hv
  clear hv
  go_enter Tryz.func45, Tryz.ntmps45
  go_wp2
  go_loopw [6, 7] (fun t i wr => ∃ (k : Nat) (o : List PFile) (A' : Option Addr) (n' c' : Nat), k ≤ ys.length ∧ t = .slice A' n' c' ∧ i = .int .i64 k ∧ Hid (o = takes xs (ys.take k)) ∧ Hid ((ys.take k).all (takeOk xs) = true) ∧ o.length ≤ 8 ∧ Rep wr lo wr.heap.size (encFiles o) (.slice A' n' c') ∧ Below w.heap.size w wr) (fun _ i _ => ys.length - (intOf i).toNat)
  case atStart => exact ⟨0, xs, A1, _, c1, Nat.zero_le _, rfl, rfl, Lib.hid rfl, Lib.hid rfl, h8, h1.mono (Nat.le_refl _) hh1, Below.refl _ _⟩
  case round =>
    obtain ⟨k, o, A', n', c', hk, rfl, rfl, ho, hall, ho8, hR, hb⟩ := hrel
    have hsz := hb.size
    have hno := Files.n hR
    obtain ⟨hco, hmo⟩ := Files.cap hR
    subst hno
    obtain ⟨wo, rfl⟩ : ∃ wo : World, wo = wr := ⟨_, rfl⟩
    by_cases hkn : k < ys.length
    · have hkn' : (k : Int) < (ys.length : Int) := by omega
      obtain ⟨b1, o1, x, rfl, _, hbhi, hx, A3, n3, c3, A4, n4, c4, d0, d1, d2, d3, r3, d4, r4⟩ := Changes.at (h2.keep hb hh2) hkn
      have hn3 := Text.n r3
      subst hn3
      have Hnx := Lib.hid (show takes xs (ys.take (k + 1)) = restC o x by rw [takes_next hx, ← ho.out])
      have Hyes := Lib.hid (fun h9 => all_takeC (t := xs) hx hall.out h9)
      have Hno := Lib.hid (fun h9 => all_notC (t := xs) hx h9)
      clear hx ho hall
      obtain ⟨W, hW⟩ : ∃ W : World, W = wo.alloc (.cells #[.int .i64 x.kind, .string ⟨x.path.toArray⟩, .string ⟨x.dest.toArray⟩, .slice A3 x.text.length c3, .slice A4 n4 c4] 52) := ⟨_, rfl⟩
      have hbW : Below wo.heap.size wo W := by rw [hW]; exact (Below.refl _ _).alloc (Nat.le_refl _) _
      have hWlt : wo.heap.size < W.heap.size := by rw [hW]; simp
      have p0 : W.cell? ⟨wo.heap.size, 0, none⟩ = some (.int .i64 x.kind) := by rw [hW]; simp [go_sem]
      have p1 : W.cell? ⟨wo.heap.size, 1, none⟩ = some (.string ⟨x.path.toArray⟩) := by rw [hW]; simp [go_sem]
      have p3 : W.cell? ⟨wo.heap.size, 3, none⟩ = some (.slice A3 x.text.length c3) := by rw [hW]; simp [go_sem]
      have hhi : hi ≤ wo.heap.size := by omega
      have hget := spec_l4Get_any A1 xs.length c1 xs x.path W lo hi ((h1.keep hb hh1).keep hbW hhi)
      have hRW : Rep W lo wo.heap.size (encFiles o) (.slice A' o.length c') := hR.keep hbW (Nat.le_refl _)
      have r3W : Rep W lo' hi' (encText x.text) (.slice A3 x.text.length c3) := r3.keep hbW (by omega)
      go_upto_region 6 with fail
      rw [← hW]
      clear hW d0 d1 d2 d3 d4 r3 r4 hR
      obtain ⟨r, hr⟩ : ∃ r, r = getAt xs x.path := ⟨_, rfl⟩
      rw [← hr] at hget
      have Hr := Lib.hid hr
      clear hr
      have hbWw : Below w.heap.size w W := hb.trans (hbW.mono hsz)
      have hsW := hbW.size
      by_cases hk1 : x.kind = 1
      · have hkb : (x.kind == 1) = true := by simpa using hk1
        have Ht := Lib.hid (Hyes.out (by unfold takeOk; rw [if_pos hk1]))
        have Hre := Lib.hid (show takes xs (ys.take (k + 1)) = o by rw [Hnx.out]; unfold restC; rw [if_pos hk1])
        have K1 := Lib.hid hk1
        clear hk1
        obtain ⟨kn, hkn9⟩ : ∃ kn, kn = r.isSome := ⟨_, rfl⟩
        rw [← hkn9] at hget
        clear hkn9
        go_wp2_with fail
        refine Calls.mono hget ?_
        rintro e w5 ⟨A5, n5, c5, rfl, rfl, _⟩
        clear hget
        go_wp2
        go_roundw
        case rel => exact ⟨k + 1, o, A', _, c', by omega, rfl, by go_num, Lib.hid Hre.out.symm, Ht, ho8, hRW.mono (Nat.le_refl _) hsW, hbWw⟩
        case measure => simp [intOf]; omega
      · have hkb : (x.kind == 1) = false := by simpa using hk1
        have K1 := Lib.hid hk1
        have Hre := Lib.hid (show takes xs (ys.take (k + 1)) = o.filter (fun f => !decide (f.path = x.path)) by rw [Hnx.out]; unfold restC; rw [if_neg hk1])
        clear hk1
        cases r with
        | none =>
          have Hf := Lib.hid (Hno.out (by unfold takeOk; rw [if_neg K1.out, ← Hr.out]))
          simp only [Option.isSome_none, Option.getD_none] at hget
          go_wp2_with fail
          refine Calls.mono hget ?_
          rintro e w5 ⟨A5, n5, c5, rfl, rfl, _⟩
          clear hget
          go_wp2
          go_ret2
          exact ⟨none, 0, 0, by rw [Hv.out, Hf.out]; rfl, hbWw, fun h9 => by rw [Hv.out, Hf.out] at h9; cases h9⟩
        | some txt =>
          simp only [Option.isSome_some, Option.getD_some] at hget
          go_wp2_with fail
          refine Calls.mono hget ?_
          rintro e w5 ⟨A5, n5, c5, rfl, rfl, r5⟩
          clear hget
          by_cases hk2 : x.kind = 2
          · have hkb2 : (x.kind == 2) = true := by simpa using hk2
            have K2 := Lib.hid hk2
            clear hk2
            have hn5 := Text.n r5
            subst hn5
            have hsame := spec_l1Same_any A5 A3 txt.length c5 x.text.length c3 txt x.text W lo hi lo' hi' r5 r3W
            by_cases he : txt = x.text
            · rw [show decide (txt = x.text) = true by simp [he]] at hsame
              have Ht := Lib.hid (Hyes.out (by unfold takeOk; rw [if_neg K1.out, ← Hr.out]; simp [K2.out, he]))
              clear he
              go_wp2_with fail
              refine Calls.mono hsame ?_
              rintro e w6 ⟨rfl, q, hw6⟩
              have hbV : Below W.heap.size W w6 := by rw [hw6]; exact below_drewN (Below.refl _ _) _
              clear hsame hw6
              have q1 : w6.cell? ⟨wo.heap.size, 1, none⟩ = some (.string ⟨x.path.toArray⟩) := (hbV.cell (p := ⟨wo.heap.size, 1, none⟩) hWlt).trans p1
              have hRV : Rep w6 lo wo.heap.size (encFiles o) (.slice A' o.length c') := hRW.keep hbV hsW
              have hsV := hbV.size
              have hbVw : Below w.heap.size w w6 := hbWw.trans (hbV.mono (by omega))
              have hmade : (w6.alloc (.cells #[] 48)).ownsRow w6.heap.size 48 2 (.slice (some ⟨w6.heap.size, 0, none⟩) 0 0) 0 (cellsZ []) := World.ownsRow_made w6 #[] 0 (Nat.le_refl _) (Nat.zero_le _) rfl
              have hb0 : Below w6.heap.size w6 (w6.alloc (.cells #[] 48)) := (Below.refl _ _).alloc (Nat.le_refl _) _
              go_wp2
              go_loopw [11, 12] (fun t i wq => ∃ (m : Nat) (zs : List (PFile × Value)) (Af : Option Addr) (cf : Nat), m ≤ o.length ∧ t = .slice Af zs.length cf ∧ i = .int .i64 m ∧ Hid (filesZ zs = (o.take m).filter (fun f => !decide (f.path = x.path))) ∧ zs.length ≤ m ∧
                  wq.ownsRow w6.heap.size 48 2 (.slice Af zs.length cf) zs.length (cellsZ zs) ∧ Hid (∀ z ∈ zs, Rep w6 lo wo.heap.size (encText z.1.text) z.2) ∧ Below w6.heap.size w6 wq) (fun _ i _ => o.length - (intOf i).toNat)
              case atStart => exact ⟨0, [], _, _, Nat.zero_le _, rfl, rfl, Lib.hid (by simp [filesZ]), Nat.le_refl _, hmade, Lib.hid (fun z hz => by cases hz), hb0⟩
              case round =>
                clear hmade hb0
                obtain ⟨m, zs, Af, cf, hm, rfl, rfl, hzs, hzl, hown, hrz, hbq⟩ := hrel
                have hsq := hbq.size
                obtain ⟨wq, rfl⟩ : ∃ wq : World, wq = wr := ⟨_, rfl⟩
                have qq1 : wq.cell? ⟨wo.heap.size, 1, none⟩ = some (.string ⟨x.path.toArray⟩) := (hbq.cell (p := ⟨wo.heap.size, 1, none⟩) (by show wo.heap.size < w6.heap.size; omega)).trans q1
                by_cases hmn : m < o.length
                · have hmn' : (m : Int) < (o.length : Int) := by omega
                  obtain ⟨b5, o5, f, rfl, _, hb5, hf, A6, n6, c6, e0, e1, r6⟩ := Files.at (hRV.keep hbq (by omega)) hmn
                  obtain ⟨b5', o5', f', h10, _, _, hf', A7, n7, c7, e0', e1', r7⟩ := Files.at hRV hmn
                  obtain ⟨rfl, rfl⟩ : b5 = b5' ∧ o5 = o5' := ⟨congrArg Addr.block (Option.some.inj h10), congrArg Addr.off (Option.some.inj h10)⟩
                  have hff : f' = f := Option.some.inj (hf'.symm.trans hf)
                  subst hff
                  have hv7 : Value.slice A7 n7 c7 = Value.slice A6 n6 c6 := by
                    have h11 := (hbq.cell (p := ⟨b5, o5 + m * 2 + 1, none⟩) (by show b5 < w6.heap.size; omega))
                    rw [e1] at h11
                    rw [e1'] at h11
                    exact (Option.some.inj h11).symm
                  rw [hv7] at r7
                  have Hnf := Lib.hid (filter_nextC (q := fun f => !decide (f.path = x.path)) hf)
                  have R7 := Lib.hid r7
                  clear hf hf' h10 e0' e1' hv7 r7
                  obtain ⟨V2, hV2⟩ : ∃ V2 : World, V2 = wq.drewN 1 := ⟨_, rfl⟩
                  by_cases he : f'.path = x.path
                  · have hne : (f'.path == x.path) = true := by simpa using he
                    have hne2 : (f'.path != x.path) = false := by simpa using he
                    have Hn2 := Lib.hid (show filesZ zs = (o.take (m + 1)).filter (fun f => !decide (f.path = x.path)) by rw [Hnf.out, hzs.out]; simp [he])
                    clear he hV2
                    go_wp2
                    go_quiet (fail)
                    go_wp2
                    go_roundw
                    case rel => exact ⟨m + 1, zs, Af, cf, by omega, rfl, by go_num, Hn2, by omega, ownsRow_same hown (fun _ _ => rfl), hrz, below_drewN hbq _⟩
                    case measure => simp [intOf]; omega
                  · have hne : (f'.path == x.path) = false := by simpa using he
                    have hne2 : (f'.path != x.path) = true := by simpa using he
                    have Hn2 := Lib.hid (show filesZ (zs ++ [(f', .slice A6 n6 c6)]) = (o.take (m + 1)).filter (fun f => !decide (f.path = x.path)) by rw [Hnf.out, filesZ_append, hzs.out]; simp [he, filesZ])
                    have Hrz2 := Lib.hid (show ∀ z ∈ zs ++ [(f', Value.slice A6 n6 c6)], Rep w6 lo wo.heap.size (encText z.1.text) z.2 from fun z hz => by
                      rcases List.mem_append.1 hz with hz | hz
                      · exact hrz.out z hz
                      · simp at hz; subst hz; exact R7.out)
                    clear he hV2
                    go_wp2
                    go_quiet (fail)
                    obtain ⟨V3, hV3⟩ : ∃ V3 : World, V3 = wq.drewN nq := ⟨_, rfl⟩
                    have hb3 : Below w6.heap.size w6 V3 := by rw [hV3]; exact below_drewN hbq _
                    have hown3 : V3.ownsRow w6.heap.size 48 2 (.slice Af zs.length cf) zs.length (cellsZ zs) := by rw [hV3]; exact ownsRow_same hown (fun _ _ => rfl)
                    have g0 : V3.cell? ⟨b5, o5 + m * 2, none⟩ = some (.string ⟨f'.path.toArray⟩) := by rw [hV3]; exact e0
                    have g1 : V3.cell? ⟨b5, o5 + m * 2 + 1, none⟩ = some (.slice A6 n6 c6) := by rw [hV3]; exact e1
                    rw [← hV3]
                    clear hV3 hown e0 e1 qq1
                    go_wp2_with (at_builtin; go_loud (refine wpList_append_src _ rfl (.tmp 63) (.tmp 68) _ rfl w6.heap.size 48 ih _ 2 40 Tryz.underlying26 gi0 gi1 gi2 gi3 rfl (by omega) _ zs.length _ rfl (hown3.alloc _) _ 1 1 [.string ⟨f'.path.toArray⟩, .slice A6 n6 c6] rfl (Src.lit V3 48 [.string ⟨f'.path.toArray⟩, .slice A6 n6 c6] 2 1 rfl) ?e2 ?e3 ?e4 ?e5 ?_))
                    case e2 => first | (exact ⟨rfl, rfl⟩) | (intro u hu; simp at hu; rcases hu with rfl | rfl <;> rfl)
                    case e3 => unfold maxLen; omega
                    case e4 => omega
                    case e5 => first | (have := hb3.size; simp; omega) | omega
                    intro A8 c8 w8 hown8 hg8 hat8
                    have hb8 : Below w6.heap.size w6 w8 := (hb3.alloc hb3.size _).grown hg8 (by have := hb3.size; simp; omega) (fun g hg => (hown3.lt g hg).1)
                    have hl9 : (zs ++ [(f', Value.slice A6 n6 c6)]).length = zs.length + 1 := by simp
                    have hown9 : w8.ownsRow w6.heap.size 48 2 (.slice A8 (zs ++ [(f', Value.slice A6 n6 c6)]).length c8) (zs ++ [(f', Value.slice A6 n6 c6)]).length (cellsZ (zs ++ [(f', Value.slice A6 n6 c6)])) := by
                      rw [hl9, cellsZ_append]
                      exact hown8
                    have Hown9 := Lib.hid hown9
                    have Hl9 := Lib.hid hl9
                    clear hown8 hg8 hat8 hown9 hl9 hown3 hb3 g0 g1
                    go_wp2
                    go_roundw
                    case rel => exact ⟨m + 1, zs ++ [(f', .slice A6 n6 c6)], A8, c8, by omega, by rw [Hl9.out], by go_num, Hn2, by rw [Hl9.out]; omega, Hown9.out, Hrz2, hb8⟩
                    case measure => simp [intOf]; omega
                · obtain rfl : m = o.length := by omega
                  rw [List.take_length] at hzs
                  have hfin : Rep wq lo wq.heap.size (encFiles (filesZ zs)) (.slice Af zs.length cf) := rep_zs hown (by omega) (fun z hz => ((hrz.out z hz).keep hbq (by omega)).mono (Nat.le_refl _) (by omega))
                  have Hfin := Lib.hid hfin
                  have Hzs := Lib.hid (show filesZ zs = takes xs (ys.take (k + 1)) by rw [hzs.out, Hre.out])
                  have hlen : (filesZ zs).length ≤ 8 := by rw [filesZ_len]; omega
                  have hbz := hbVw.trans (hbq.mono (by omega))
                  clear hfin hzs hown
                  go_wp2
                  go_roundw
                  case rel => exact ⟨k + 1, filesZ zs, Af, _, cf, by omega, rfl, by go_num, Hzs, Ht, hlen, Hfin.out, hbz⟩
                  case measure => simp [intOf]; omega
            · rw [show decide (txt = x.text) = false by simp [he]] at hsame
              have Hf := Lib.hid (Hno.out (by unfold takeOk; rw [if_neg K1.out, ← Hr.out]; simp [K2.out, he]))
              clear he
              go_wp2_with fail
              refine Calls.mono hsame ?_
              rintro e w6 ⟨rfl, q, rfl⟩
              go_wp2
              go_ret2
              exact ⟨none, 0, 0, by rw [Hv.out, Hf.out]; rfl, below_drewN hbWw _, fun h9 => by rw [Hv.out, Hf.out] at h9; cases h9⟩
          · have hkb2 : (x.kind == 2) = false := by simpa using hk2
            have Ht := Lib.hid (Hyes.out (by unfold takeOk; rw [if_neg K1.out, ← Hr.out]; simp [hk2]))
            have hbV : Below W.heap.size W W := Below.refl _ _
            clear hk2
            have q1 : W.cell? ⟨wo.heap.size, 1, none⟩ = some (.string ⟨x.path.toArray⟩) := (hbV.cell (p := ⟨wo.heap.size, 1, none⟩) hWlt).trans p1
            have hRV : Rep W lo wo.heap.size (encFiles o) (.slice A' o.length c') := hRW.keep hbV hsW
            have hsV := hbV.size
            have hbVw : Below w.heap.size w W := hbWw.trans (hbV.mono (by omega))
            have hmade : (W.alloc (.cells #[] 48)).ownsRow W.heap.size 48 2 (.slice (some ⟨W.heap.size, 0, none⟩) 0 0) 0 (cellsZ []) := World.ownsRow_made W #[] 0 (Nat.le_refl _) (Nat.zero_le _) rfl
            have hb0 : Below W.heap.size W (W.alloc (.cells #[] 48)) := (Below.refl _ _).alloc (Nat.le_refl _) _
            go_wp2
            go_loopw [11, 12] (fun t i wq => ∃ (m : Nat) (zs : List (PFile × Value)) (Af : Option Addr) (cf : Nat), m ≤ o.length ∧ t = .slice Af zs.length cf ∧ i = .int .i64 m ∧ Hid (filesZ zs = (o.take m).filter (fun f => !decide (f.path = x.path))) ∧ zs.length ≤ m ∧
                wq.ownsRow W.heap.size 48 2 (.slice Af zs.length cf) zs.length (cellsZ zs) ∧ Hid (∀ z ∈ zs, Rep W lo wo.heap.size (encText z.1.text) z.2) ∧ Below W.heap.size W wq) (fun _ i _ => o.length - (intOf i).toNat)
            case atStart => exact ⟨0, [], _, _, Nat.zero_le _, rfl, rfl, Lib.hid (by simp [filesZ]), Nat.le_refl _, hmade, Lib.hid (fun z hz => by cases hz), hb0⟩
            case round =>
              clear hmade hb0
              obtain ⟨m, zs, Af, cf, hm, rfl, rfl, hzs, hzl, hown, hrz, hbq⟩ := hrel
              have hsq := hbq.size
              obtain ⟨wq, rfl⟩ : ∃ wq : World, wq = wr := ⟨_, rfl⟩
              have qq1 : wq.cell? ⟨wo.heap.size, 1, none⟩ = some (.string ⟨x.path.toArray⟩) := (hbq.cell (p := ⟨wo.heap.size, 1, none⟩) (by show wo.heap.size < W.heap.size; omega)).trans q1
              by_cases hmn : m < o.length
              · have hmn' : (m : Int) < (o.length : Int) := by omega
                obtain ⟨b5, o5, f, rfl, _, hb5, hf, A6, n6, c6, e0, e1, r6⟩ := Files.at (hRV.keep hbq (by omega)) hmn
                obtain ⟨b5', o5', f', h10, _, _, hf', A7, n7, c7, e0', e1', r7⟩ := Files.at hRV hmn
                obtain ⟨rfl, rfl⟩ : b5 = b5' ∧ o5 = o5' := ⟨congrArg Addr.block (Option.some.inj h10), congrArg Addr.off (Option.some.inj h10)⟩
                have hff : f' = f := Option.some.inj (hf'.symm.trans hf)
                subst hff
                have hv7 : Value.slice A7 n7 c7 = Value.slice A6 n6 c6 := by
                  have h11 := (hbq.cell (p := ⟨b5, o5 + m * 2 + 1, none⟩) (by show b5 < W.heap.size; omega))
                  rw [e1] at h11
                  rw [e1'] at h11
                  exact (Option.some.inj h11).symm
                rw [hv7] at r7
                have Hnf := Lib.hid (filter_nextC (q := fun f => !decide (f.path = x.path)) hf)
                have R7 := Lib.hid r7
                clear hf hf' h10 e0' e1' hv7 r7
                obtain ⟨V2, hV2⟩ : ∃ V2 : World, V2 = wq.drewN 1 := ⟨_, rfl⟩
                by_cases he : f'.path = x.path
                · have hne : (f'.path == x.path) = true := by simpa using he
                  have hne2 : (f'.path != x.path) = false := by simpa using he
                  have Hn2 := Lib.hid (show filesZ zs = (o.take (m + 1)).filter (fun f => !decide (f.path = x.path)) by rw [Hnf.out, hzs.out]; simp [he])
                  clear he hV2
                  go_wp2
                  go_quiet (fail)
                  go_wp2
                  go_roundw
                  case rel => exact ⟨m + 1, zs, Af, cf, by omega, rfl, by go_num, Hn2, by omega, ownsRow_same hown (fun _ _ => rfl), hrz, below_drewN hbq _⟩
                  case measure => simp [intOf]; omega
                · have hne : (f'.path == x.path) = false := by simpa using he
                  have hne2 : (f'.path != x.path) = true := by simpa using he
                  have Hn2 := Lib.hid (show filesZ (zs ++ [(f', .slice A6 n6 c6)]) = (o.take (m + 1)).filter (fun f => !decide (f.path = x.path)) by rw [Hnf.out, filesZ_append, hzs.out]; simp [he, filesZ])
                  have Hrz2 := Lib.hid (show ∀ z ∈ zs ++ [(f', Value.slice A6 n6 c6)], Rep W lo wo.heap.size (encText z.1.text) z.2 from fun z hz => by
                    rcases List.mem_append.1 hz with hz | hz
                    · exact hrz.out z hz
                    · simp at hz; subst hz; exact R7.out)
                  clear he hV2
                  go_wp2
                  go_quiet (fail)
                  obtain ⟨V3, hV3⟩ : ∃ V3 : World, V3 = wq.drewN nq := ⟨_, rfl⟩
                  have hb3 : Below W.heap.size W V3 := by rw [hV3]; exact below_drewN hbq _
                  have hown3 : V3.ownsRow W.heap.size 48 2 (.slice Af zs.length cf) zs.length (cellsZ zs) := by rw [hV3]; exact ownsRow_same hown (fun _ _ => rfl)
                  have g0 : V3.cell? ⟨b5, o5 + m * 2, none⟩ = some (.string ⟨f'.path.toArray⟩) := by rw [hV3]; exact e0
                  have g1 : V3.cell? ⟨b5, o5 + m * 2 + 1, none⟩ = some (.slice A6 n6 c6) := by rw [hV3]; exact e1
                  rw [← hV3]
                  clear hV3 hown e0 e1 qq1
                  go_wp2_with (at_builtin; go_loud (refine wpList_append_src _ rfl (.tmp 63) (.tmp 68) _ rfl W.heap.size 48 ih _ 2 40 Tryz.underlying26 gi0 gi1 gi2 gi3 rfl (by omega) _ zs.length _ rfl (hown3.alloc _) _ 1 1 [.string ⟨f'.path.toArray⟩, .slice A6 n6 c6] rfl (Src.lit V3 48 [.string ⟨f'.path.toArray⟩, .slice A6 n6 c6] 2 1 rfl) ?e2 ?e3 ?e4 ?e5 ?_))
                  case e2 => first | (exact ⟨rfl, rfl⟩) | (intro u hu; simp at hu; rcases hu with rfl | rfl <;> rfl)
                  case e3 => unfold maxLen; omega
                  case e4 => omega
                  case e5 => first | (have := hb3.size; simp; omega) | omega
                  intro A8 c8 w8 hown8 hg8 hat8
                  have hb8 : Below W.heap.size W w8 := (hb3.alloc hb3.size _).grown hg8 (by have := hb3.size; simp; omega) (fun g hg => (hown3.lt g hg).1)
                  have hl9 : (zs ++ [(f', Value.slice A6 n6 c6)]).length = zs.length + 1 := by simp
                  have hown9 : w8.ownsRow W.heap.size 48 2 (.slice A8 (zs ++ [(f', Value.slice A6 n6 c6)]).length c8) (zs ++ [(f', Value.slice A6 n6 c6)]).length (cellsZ (zs ++ [(f', Value.slice A6 n6 c6)])) := by
                    rw [hl9, cellsZ_append]
                    exact hown8
                  have Hown9 := Lib.hid hown9
                  have Hl9 := Lib.hid hl9
                  clear hown8 hg8 hat8 hown9 hl9 hown3 hb3 g0 g1
                  go_wp2
                  go_roundw
                  case rel => exact ⟨m + 1, zs ++ [(f', .slice A6 n6 c6)], A8, c8, by omega, by rw [Hl9.out], by go_num, Hn2, by rw [Hl9.out]; omega, Hown9.out, Hrz2, hb8⟩
                  case measure => simp [intOf]; omega
              · obtain rfl : m = o.length := by omega
                rw [List.take_length] at hzs
                have hfin : Rep wq lo wq.heap.size (encFiles (filesZ zs)) (.slice Af zs.length cf) := rep_zs hown (by omega) (fun z hz => ((hrz.out z hz).keep hbq (by omega)).mono (Nat.le_refl _) (by omega))
                have Hfin := Lib.hid hfin
                have Hzs := Lib.hid (show filesZ zs = takes xs (ys.take (k + 1)) by rw [hzs.out, Hre.out])
                have hlen : (filesZ zs).length ≤ 8 := by rw [filesZ_len]; omega
                have hbz := hbVw.trans (hbq.mono (by omega))
                clear hfin hzs hown
                go_wp2
                go_roundw
                case rel => exact ⟨k + 1, filesZ zs, Af, _, cf, by omega, rfl, by go_num, Hzs, Ht, hlen, Hfin.out, hbz⟩
                case measure => simp [intOf]; omega
    · obtain rfl : k = ys.length := by omega
      rw [List.take_length] at ho hall
      have H1 := Lib.hid (show v = true by rw [Hv.out, hall.out])
      clear hall
      go_wp2
      go_ret2
      exact ⟨_, _, _, by rw [H1.out]; rfl, hb, fun _ => by rw [← ho.out]; exact hR⟩
end Go.Proofs.YtmickenajhppoaaGreatDoor
