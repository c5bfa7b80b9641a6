import Derived.Test.YtmickenajhppoaaGreatDoorZ42
import Derived.Test.YtmickenajhppoaaGreatDoorZ32
import Derived.Test.YtmickenajhppoaaGreatDoorZ27
import Derived.Test.YtmickenajhppoaaGreatDoorZ39
import Derived.Test.YtmickenajhppoaaGreatDoorZ25
import Derived.Test.YtmickenajhppoaaGreatDoorPut
import Derived.Test.YtmickenajhppoaaGreatDoorZ23
/- Walk: the program's ChangesDo. Printed by wip/mk_cdo2.py. -/
namespace Go.Proofs.YtmickenajhppoaaGreatDoor
open Go.RowKit

theorem TK.keep {V W W' : World} {B H lo hi : Nat} {rb : Option Nat} {z : PFile × Value} (h : TK V B H rb W lo hi z) (hb : Below B W W') (hhi : hi ≤ B) : TK V B H rb W' lo hi z := by
  rcases h with h | h
  · exact .inl h
  · exact .inr (h.keep hb hhi)
theorem ownB (A : Option Addr) (n m c d : Nat) : (Value.slice A n c).ownBlock = (Value.slice A m d).ownBlock := by
  cases A <;> rfl
theorem paths_apart {l : List PChange} (h : (pathsL l).Nodup) {k : Nat} {x : PChange} (hx : l[k]? = some x) : ∀ c ∈ l.take k, x.path ≠ c.path := by
  intro c hc he
  obtain ⟨hk, hx'⟩ := List.getElem?_eq_some_iff.1 hx
  have e : l = l.take k ++ x :: l.drop (k + 1) := by rw [← hx', ← List.drop_eq_getElem_cons hk, List.take_append_drop]
  rw [e, pathsL, List.flatMap_append, List.flatMap_cons] at h
  refine (List.nodup_append.1 h).2.2 c.path (List.mem_flatMap.2 ⟨c, hc, ?_⟩) x.path (List.mem_append_left _ ?_) he.symm
  · unfold pathsC; split <;> simp
  · unfold pathsC; split <;> simp
theorem own_slice {w : World} {x : List Str} {v : Value} {F : List Nat} (h : Own w (encText x) v F) : ∃ A n c, v = .slice A n c := by
  obtain ⟨n, us, G, hrow, _⟩ := h
  rcases hrow.2 with ⟨rfl, _⟩ | ⟨g, cap, cur, rfl, _⟩
  · exact ⟨_, _, _, rfl⟩
  · exact ⟨_, _, _, rfl⟩
theorem quiet_drew {P : Program} {f : FuncId} {args : Array Value} {w : World} {n : Nat} {v : Value} (h : Calls P f args (w.drewN n) fun e w' => e = .returned v ∧ ∃ k, w' = (w.drewN n).drewN k) : Calls P f args (w.drewN n) fun e w'' => e = .returned v ∧ ∃ m, w'' = w.drewN m := h.mono fun _ _ hh => ⟨hh.1, by
  obtain ⟨k, hk⟩ := hh.2
  exact ⟨n + k, by rw [hk, World.drewN_drewN]⟩⟩
theorem Owns.one {w : World} : ∀ {ps : List PV} {us : List Value} {F : List Nat}, Owns w ps us F → ∀ u ∈ us, u.oneCell' = true
  | [], us, F, h, u, hu => by rw [h.1] at hu; cases hu
  | p :: ps, us, F, ⟨v, us', F1, F2, e, _, h1, h2⟩, u, hu => by
    subst e
    rcases List.mem_cons.1 hu with rfl | hu
    · cases p with
      | int k n => rw [h1.1]; rfl
      | bool b => rw [h1.1]; rfl
      | str s => rw [h1.1]; rfl
      | sl e z qs =>
        obtain ⟨n, vs, G, hrow, _⟩ := h1
        rcases hrow.2 with ⟨e9, _⟩ | ⟨g, cap, cur, e9, _⟩
        · rw [e9]; rfl
        · rw [e9]; rfl
    · exact Owns.one h2 u hu
theorem textOk10 {xs : List PFile} (h : treeOk xs = true) : ∀ y ∈ xs, textOk y.text = true := by
  intro y hy
  obtain ⟨k, hk⟩ := List.getElem?_of_mem hy
  exact (treeAt_parts hk ((treeOk_iff.1 h).2 k (List.getElem?_eq_some_iff.1 hk).1)).1
theorem Kept.up {V W W' : World} {B H : Nat} {rb : Option Nat} (h : Kept V W B H rb) (hb : Below H W W') : Kept V W' B H rb := fun k h1 h2 h3 => (hb.block k h2).trans (h k h1 h2 h3)
/-- The row of the copied tree stays, where only later blocks change. -/
theorem Texts.row {V W W' : World} {B H n c e : Nat} {A : Option Addr} {zs : List (PFile × Value)} {G : List Nat} {us : List Value} (h : Texts V B H (Value.slice A 0 c).ownBlock zs G) (hrow : W.ownsRow B e 2 (.slice A n c) n us) (hb : Below H W W') : W'.ownsRow B e 2 (.slice A n c) n us :=
  ownsRow_same hrow (fun k hk => hb.block k (h.bd k (List.mem_append_left _ (ownB A n 0 c c ▸ hk))).2)
theorem takenF1 {t : List PFile} {c : PChange} (h : c.kind = 1) : takenF t c = ⟨c.path, c.text⟩ := by unfold takenF; rw [if_pos h]
theorem takenF0 {t : List PFile} {c : PChange} (h : ¬ c.kind = 1) : takenF t c = ⟨c.path, oldAt t c⟩ := by unfold takenF; rw [if_neg h]
theorem taken_next {t : List PFile} {l : List PChange} {k : Nat} {x : PChange} {tk : List (PFile × Value)} {z : PFile × Value} (hx : l[k]? = some x) (h : filesZ tk = (l.take k).map (takenF t)) (hz : z.1 = takenF t x) : filesZ (tk ++ [z]) = (l.take (k + 1)).map (takenF t) := by
  rw [filesZ_append, h, List.take_add_one, hx, List.map_append]
  simp [filesZ, hz]
/-- A fresh tree, as pairs. -/
theorem Fresh.zs {w : World} {B H n c e : Nat} {A : Option Addr} {xs : List PFile} (h : Fresh w B H (.sl e 2 (xs.flatMap cFiles)) (.slice A n c)) : ∃ zs G, n = zs.length ∧ filesZ zs = xs ∧ w.ownsRow B e 2 (.slice A zs.length c) zs.length (cellsZ zs) ∧ Texts w B H (Value.slice A 0 c).ownBlock zs G := by
  obtain ⟨F, ⟨n', us, G, hrow, rfl, hown⟩, hnd, hbd⟩ := h
  obtain ⟨zs, hz, rfl⟩ := owns_zs hown
  have hn : n = n' := by
    rcases hrow.2 with ⟨e1, e2⟩ | ⟨g, cap, cur, e1, _⟩
    · cases e1; exact e2.symm
    · cases e1; rfl
  subst hn
  have hl : zs.length = n := by have h9 := hrow.1; rw [cellsZ_len] at h9; omega
  subst hl
  refine ⟨zs, G, rfl, hz, ⟨hrow.1, ?_⟩, by rw [hz]; exact hown, ownB A zs.length 0 c c ▸ hnd, ownB A zs.length 0 c c ▸ hbd⟩
  rcases hrow.2 with h2 | ⟨g, cp, cur, e1, r⟩
  · exact .inl h2
  · cases e1
    exact .inr ⟨g, _, cur, rfl, (hbd g (by simp [Value.ownBlock])).1, r.2⟩

set_option maxRecDepth 100000 in
set_option maxHeartbeats 16000000 in
theorem impl_ChangesDo_any (A1 A2 : Option Addr) (n1 c1 n2 c2 : Nat) (xs : List PFile) (ys : List PChange) (w : World) (lo hi lo' hi' : Nat) (h1 : Rep w lo hi (encFiles xs) (.slice A1 n1 c1)) (h2 : Rep w lo' hi' (encChanges ys) (.slice A2 n2 c2)) (hh1 : hi ≤ w.heap.size) (hh2 : hi' ≤ w.heap.size) (ht1 : okTree xs) (hz2 : szChanges ys ≤ 1048576) (hs2 : ∀ x ∈ ys, okChange x) :
    Calls Tryz.prog 9 #[.slice A1 n1 c1, .slice A2 n2 c2] w fun e w' => ∃ A n c, e = .returned (.tuple #[.slice A n c, .bool (changesDo xs ys).isSome]) ∧ Below w.heap.size w w' ∧ Fresh w' w.heap.size w'.heap.size (encFiles ((changesDo xs ys).getD [])) (.slice A n c) := by
  have q1 := impl_TreeOk_any A1 n1 c1 xs w lo hi h1 hh1 ht1
  have q2 := fun w' (hb : Below w.heap.size w w') => impl_ChangesOk_any A2 n2 c2 ys w' lo' hi' (h2.keep hb hh2) (Nat.le_trans hh2 hb.size) hz2
  obtain ⟨ih, gi0, gi1, gi2, gi3⟩ := info_parts Tryz.infoFile
  have hl2 := Changes.n h2
  obtain ⟨hc2, hm2⟩ := Changes.cap h2
  subst hl2
  obtain ⟨v, hv⟩ : ∃ v, v = changesDo xs ys := ⟨_, rfl⟩
  rw [← hv]
  unfold changesDo at hv
  cases e1 : treeOk xs with
  | false =>
    rw [e1] at q1 hv
    have Hv := Lib.hid (show v = none from hv)
    clear hv e1 q2
    go_enter Tryz.func9, Tryz.ntmps9
    go_wp2_with fail
    refine Calls.mono q1 ?_
    rintro e w1 ⟨rfl, hb1⟩
    go_wp2
    go_ret2
    exact ⟨none, 0, 0, by rw [Hv.out]; rfl, hb1, by rw [Hv.out]; exact Fresh.nil _ _ _ _ _⟩
  | true =>
    rw [e1] at q1
    cases e2 : changesOk ys with
    | false =>
      rw [e2] at q2
      rw [e1, e2] at hv
      have Hv := Lib.hid (show v = none from hv)
      clear hv e1 e2
      go_enter Tryz.func9, Tryz.ntmps9
      go_wp2_with fail
      refine Calls.mono q1 ?_
      rintro e w1 ⟨rfl, hb1⟩
      go_wp2_with fail
      refine Calls.mono (q2 w1 hb1) ?_
      rintro e w2 ⟨rfl, hb2⟩
      go_wp2
      go_ret2
      exact ⟨none, 0, 0, by rw [Hv.out]; rfl, hb1.trans (hb2.mono hb1.size), by rw [Hv.out]; exact Fresh.nil _ _ _ _ _⟩
    | true =>
      rw [e2] at q2
      rw [e1, e2] at hv
      have Hv := Lib.hid (show v = if ys.all (takeOk xs) = true then lastOk (putAll xs ys (takes xs ys)) else none from hv)
      have E1 := Lib.hid e1
      have E2 := Lib.hid e2
      have Hz := Lib.hid (small_changes hz2)
      have HT := Lib.hid ht1
      have Hs := Lib.hid hs2
      have hcopy := fun w' (hb : Below w.heap.size w w') => impl_copyTree_any A1 n1 c1 xs w' lo hi (h1.keep hb hh1) (Nat.le_trans hh1 hb.size) (smallTree_ok e1)
      have hx8 := (treeOk_iff.1 e1).1
      have hcp : ys.length ≤ 16 ∧ (∀ y ∈ ys, changeOk y = true) ∧ (pathsL ys).Nodup := by
        have h9 := e2
        unfold changesOk at h9
        simp only [Bool.and_eq_true, decide_eq_true_eq, List.all_eq_true] at h9
        exact ⟨h9.1, h9.2.1, h9.2.2⟩
      have hy16 := hcp.1
      have Hco := Lib.hid hcp.2.1
      have Hga := Lib.hid (fun (k : Nat) (x : PChange) (hx : ys[k]? = some x) => getAt_takes (ys.take k) xs x.path (paths_apart hcp.2.2 hx))
      have Hasc := Lib.hid (fun (k : Nat) => takes_asc (ys.take k) xs (ascT_of e1))
      clear hcp
      clear hv e1 e2 ht1 hz2 hs2 h1 hh1
      go_enter Tryz.func9, Tryz.ntmps9
      go_wp2_with fail
      refine Calls.mono q1 ?_
      rintro e w1 ⟨rfl, hb1⟩
      go_wp2_with fail
      refine Calls.mono (q2 w1 hb1) ?_
      rintro e w2 ⟨rfl, hb2⟩
      have hb12 : Below w.heap.size w w2 := hb1.trans (hb2.mono hb1.size)
      go_wp2_with fail
      refine Calls.mono (hcopy w2 hb12) ?_
      rintro e w3 ⟨A, n3, c, rfl, hb3, hf3⟩
      have hb13 : Below w.heap.size w w3 := hb12.trans (hb3.mono hb12.size)
      obtain ⟨zs0, G0, rfl, hzs0, hrow0, htx0⟩ := Fresh.zs hf3
      clear q1 q2 hcopy hb1 hb2 hf3
      have h2b := h2.keep hb12 hh2
      have hB : hi' ≤ w2.heap.size := Nat.le_trans hh2 hb12.size
      have hs12 := hb12.size
      have hs23 := hb3.size
      have Htx0 := Lib.hid (show ∃ G, Texts w3 w2.heap.size w3.heap.size (Value.slice A 0 c).ownBlock zs0 G from ⟨G0, htx0⟩)
      have Hz0 := Lib.hid hzs0
      clear htx0 hzs0 h2 hh2
      go_wp2
      go_loopw [6, 7, 30] (fun t s i wr => ∃ (k : Nat) (zs tk : List (PFile × Value)) (Bt : Option Addr) (ct : Nat), k ≤ ys.length ∧ t = .slice A zs.length c ∧ s = .slice Bt tk.length ct ∧ i = .int .i64 k ∧ Hid (filesZ zs = takes xs (ys.take k)) ∧ Hid ((ys.take k).all (takeOk xs) = true) ∧ Hid (filesZ tk = (ys.take k).map (takenF xs)) ∧
          Hid (∃ G, Texts w3 w2.heap.size w3.heap.size (Value.slice A 0 c).ownBlock zs G) ∧ Hid (∀ z ∈ tk, TK w3 w2.heap.size w3.heap.size (Value.slice A 0 c).ownBlock wr lo' hi' z) ∧ Hid (tk.length = k) ∧ zs.length ≤ 8 ∧
          wr.ownsRow w2.heap.size 48 2 (.slice A zs.length c) zs.length (cellsZ zs) ∧ wr.ownsRow w3.heap.size 48 2 (.slice Bt tk.length ct) tk.length (cellsZ tk) ∧
          Kept w3 wr w2.heap.size w3.heap.size (Value.slice A 0 c).ownBlock ∧ w3.heap.size ≤ wr.heap.size ∧ Below w2.heap.size w2 wr) (fun _ _ i _ => ys.length - (intOf i).toNat)
      case atStart => exact ⟨0, zs0, [], none, 0, Nat.zero_le _, rfl, rfl, rfl, Lib.hid Hz0.out, Lib.hid rfl, Lib.hid rfl, Htx0, Lib.hid (fun z hz => by cases hz), Lib.hid rfl, by have := filesZ_len zs0; rw [Hz0.out] at this; omega, hrow0, ⟨rfl, .inl ⟨rfl, rfl⟩⟩, fun _ _ _ _ => rfl, Nat.le_refl _, hb3⟩
      case round =>
        obtain ⟨k, zs, tk, Bt, ct, hk, rfl, rfl, rfl, Hzs, Hall, Htk, Htx, Htt, Htl, hz8, hrow, hrow2, hkept, hwsz, hb⟩ := hrel
        obtain ⟨wo, rfl⟩ : ∃ wo : World, wo = wr := ⟨_, rfl⟩
        have hR : Rep wo 0 wo.heap.size (encFiles (filesZ zs)) (.slice A zs.length c) := by
          obtain ⟨G, hG⟩ := Htx.out
          rw [ownB A 0 zs.length c c] at hG hkept
          exact ((hG.fresh hkept hrow hwsz).rep).mono (Nat.zero_le _) (Nat.le_refl _)
        have htl : tk.length ≤ 16 := by rw [Htl.out]; omega
        by_cases hkn : k < ys.length
        · have hkn' : (k : Int) < (ys.length : Int) := by omega
          obtain ⟨b1, o1, x, rfl, _, hbhi, hx, A3, n3, c3, A4, n4, c4, d0, d1, d2, d3, r3, d4, r4⟩ := Changes.at (h2b.keep hb hB) hkn
          have hn3 := Text.n r3
          have hn4 := Hunks.n r4
          subst hn3 hn4
          have Hxm := Lib.hid hx
          clear hx
          obtain ⟨W, hW⟩ : ∃ W : World, W = wo.alloc (.cells #[.int .i64 x.kind, .string ⟨x.path.toArray⟩, .string ⟨x.dest.toArray⟩, .slice A3 x.text.length c3, .slice A4 x.patch.length c4] 52) := ⟨_, rfl⟩
          have hbW : Below wo.heap.size wo W := by rw [hW]; exact (Below.refl _ _).alloc (Nat.le_refl _) _
          have hWlt : wo.heap.size < W.heap.size := by rw [hW]; simp
          have p0 : W.cell? ⟨wo.heap.size, 0, none⟩ = some (.int .i64 x.kind) := by rw [hW]; simp [go_sem]
          have p1 : W.cell? ⟨wo.heap.size, 1, none⟩ = some (.string ⟨x.path.toArray⟩) := by rw [hW]; simp [go_sem]
          have p3 : W.cell? ⟨wo.heap.size, 3, none⟩ = some (.slice A3 x.text.length c3) := by rw [hW]; simp [go_sem]
          have r3W : Rep W lo' hi' (encText x.text) (.slice A3 x.text.length c3) := r3.keep hbW (by omega)
          have hRW : Rep W 0 wo.heap.size (encFiles (filesZ zs)) (.slice A zs.length c) := hR.keep hbW (Nat.le_refl _)
          have hrowW : W.ownsRow w2.heap.size 48 2 (.slice A zs.length c) zs.length (cellsZ zs) := by rw [hW]; exact hrow.alloc _
          have hrow2W : W.ownsRow w3.heap.size 48 2 (.slice Bt tk.length ct) tk.length (cellsZ tk) := by rw [hW]; exact hrow2.alloc _
          have hkW := hkept.below hbW hwsz
          have hbWw : Below w2.heap.size w2 W := hb.trans (hbW.mono (by omega))
          have HttW := Lib.hid (fun z hz => (Htt.out z hz).keep (hbW.mono (by omega : w2.heap.size ≤ wo.heap.size)) hB)
          by_cases hk1 : x.kind = 1
          · have hkb : (x.kind == 1) = true := by simpa using hk1
            have K1 := Lib.hid hk1
            clear hk1
            go_upto_region 9 with fail
            rw [← hW]
            clear hW d0 d1 d2 d3 d4 r3 r4
            go_wp2_with (at_builtin; go_loud (refine wpList_append_src _ rfl (.tmp 37) (.tmp 43) _ rfl w3.heap.size 48 ih _ 2 40 Tryz.underlying26 gi0 gi1 gi2 gi3 rfl (by omega) _ tk.length _ rfl (hrow2W.alloc _) _ 1 1 [.string ⟨x.path.toArray⟩, .slice A3 x.text.length c3] rfl (Src.lit W 48 [.string ⟨x.path.toArray⟩, .slice A3 x.text.length c3] 2 1 rfl) ?e2 ?e3 ?e4 ?e5 ?_))
            case e2 => first | (exact ⟨rfl, rfl⟩) | (intro u hu; simp at hu; rcases hu with rfl | rfl <;> rfl)
            case e3 => unfold maxLen; omega
            case e4 => omega
            case e5 => first | (have := hbW.size; simp; omega) | omega
            intro A8 c8 w8 hown8 hg8 hat8
            obtain ⟨tk', htk'⟩ : ∃ tk', tk' = tk ++ [((⟨x.path, x.text⟩ : PFile), Value.slice A3 x.text.length c3)] := ⟨_, rfl⟩
            have hl' : tk'.length = tk.length + 1 := by rw [htk']; simp
            have hb8 : Below w3.heap.size W w8 := ((Below.refl w3.heap.size W).alloc (by omega) _).grown hg8 (by simp; omega) (fun g hg => (hrow2W.lt g hg).1)
            have hrow8 : w8.ownsRow w2.heap.size 48 2 (.slice A zs.length c) zs.length (cellsZ zs) := by
              obtain ⟨G, hG⟩ := Htx.out
              exact hG.row hrowW hb8
            have hrow28 : w8.ownsRow w3.heap.size 48 2 (.slice A8 tk'.length c8) tk'.length (cellsZ tk') := by
              rw [hl', htk', cellsZ_append]
              exact hown8
            have hk8 := hkW.up hb8
            have hbz := hbWw.trans (hb8.mono hs23)
            have hs8 : w3.heap.size ≤ w8.heap.size := by have := hb8.size; omega
            have Hx1 := Lib.hid (show filesZ tk' = (ys.take (k + 1)).map (takenF xs) by rw [htk']; exact taken_next Hxm.out Htk.out (takenF1 K1.out).symm)
            have Hx2 := Lib.hid (show ∀ z ∈ tk', TK w3 w2.heap.size w3.heap.size (Value.slice A 0 c).ownBlock w8 lo' hi' z from fun z hz => by
              rw [htk'] at hz
              rcases List.mem_append.1 hz with hz | hz
              · exact (HttW.out z hz).keep (hb8.mono hs23) hB
              · simp at hz
                subst hz
                exact .inr (r3W.keep hb8 (by omega)))
            have Hx3 := Lib.hid (show filesZ zs = takes xs (ys.take (k + 1)) by rw [takes_next Hxm.out, ← Hzs.out]; unfold restC; rw [if_pos K1.out])
            have Hx4 := Lib.hid (all_takeC (t := xs) Hxm.out Hall.out (by unfold takeOk; rw [if_pos K1.out]))
            have Hx5 := Lib.hid (show tk'.length = k + 1 by rw [hl', Htl.out])
            have Hl' := Lib.hid hl'
            clear hown8 hg8 hat8 htk' hl' hrow2W hrowW hb8 hrow hrow2
            go_wp2
            go_roundw
            case rel => exact ⟨k + 1, zs, tk', A8, c8, by omega, rfl, by rw [Hl'.out], by go_num, Hx3, Hx4, Hx1, Htx, Hx2, Hx5, hz8, hrow8, hrow28, hk8, hs8, hbz⟩
            case measure => simp [intOf]; omega
          · have hkb : (x.kind == 1) = false := by simpa using hk1
            have K1 := Lib.hid hk1
            clear hk1
            have hidx := indexFunc_any A zs.length c (filesZ zs) x.path wo.heap.size W 0 wo.heap.size hRW (by omega) p1
            go_wp2_with fail
            rw [← hW]
            clear hW d0 d1 d2 d3 d4 r3 r4
            refine Calls.mono hidx ?_
            rintro e w5 ⟨rfl, hb5⟩
            have HgA := Lib.hid (show getAt (filesZ zs) x.path = getAt xs x.path by rw [Hzs.out]; exact Hga.out k x Hxm.out)
            obtain ⟨r, hr⟩ : ∃ r, r = getAt xs x.path := ⟨_, rfl⟩
            rw [← hr] at HgA
            have Hr := Lib.hid hr
            clear hr hidx
            have hs5 := hb5.size
            have hb5w : Below w2.heap.size w2 w5 := hbWw.trans (hb5.mono (by omega))
            have hb53 : Below w3.heap.size W w5 := hb5.mono (by omega)
            have p05 := (hb5.cell (p := ⟨wo.heap.size, 0, none⟩) hWlt).trans p0
            have p35 := (hb5.cell (p := ⟨wo.heap.size, 3, none⟩) hWlt).trans p3
            cases r with
            | none =>
              rw [idxF_none HgA.out]
              have Hn := Lib.hid (show v = none by rw [Hv.out, all_notC (t := xs) Hxm.out (by unfold takeOk; rw [if_neg K1.out, ← Hr.out])]; rfl)
              go_wp2
              go_quiet (fail)
              go_wp2
              go_ret2
              exact ⟨none, 0, 0, by rw [Hn.out]; rfl, below_drewN (hb12.trans (hb5w.mono hs12)) _, by rw [Hn.out]; exact Fresh.nil _ _ _ _ _⟩
            | some txt =>
              obtain ⟨q, f, hq1, hq2, hq3, hq4, hq5⟩ := idxF_some (by rw [Hzs.out]; exact Hasc.out k) HgA.out
              rw [hq1]
              have hlf := filesZ_len zs
              have hqz : q < zs.length := by have := (List.getElem?_eq_some_iff.1 hq2).1; omega
              obtain ⟨z, hz⟩ : ∃ z, zs[q]? = some z := ⟨_, List.getElem?_eq_getElem hqz⟩
              have hzf : f = z.1 := by
                have h9 : (filesZ zs)[q]? = some z.1 := by unfold filesZ; rw [List.getElem?_map, hz]; rfl
                rw [hq2] at h9
                exact Option.some.inj h9
              obtain ⟨z1, z2⟩ := z
              obtain rfl : f = z1 := hzf
              obtain ⟨G, hG⟩ := Htx.out
              obtain ⟨HG', ⟨F, hF, hFb⟩, hcut⟩ := hG.cut hz
              obtain ⟨A6, n6, c6, rfl⟩ := own_slice hF
              have hrow5 : w5.ownsRow w2.heap.size 48 2 (.slice A zs.length c) zs.length (cellsZ zs) := hG.row hrowW hb53
              have hrow25 : w5.ownsRow w3.heap.size 48 2 (.slice Bt tk.length ct) tk.length (cellsZ tk) := ownsRow_same hrow2W (fun g hg => hb5.block g (hrow2W.lt g (by simpa using hg)).2)
              have hk5 := hkW.up hb53
              have hT6 : Rep w5 0 w5.heap.size (encText txt) (.slice A6 n6 c6) := by
                have h9 : TK w3 w2.heap.size w3.heap.size (Value.slice A 0 c).ownBlock w5 lo' hi' (f, .slice A6 n6 c6) := .inl ⟨F, hF, hFb⟩
                have h8 := h9.rep hk5 (Below.refl _ _) hB (by omega) (by omega)
                rw [← hq4]
                exact h8
              obtain ⟨g, rfl, hgb, hgh, hgnc⟩ : ∃ g, A = some ⟨g, 0, none⟩ ∧ w2.heap.size ≤ g ∧ g < w3.heap.size ∧ zs.length ≤ c := by
                rcases hrow5.2 with ⟨e8, e9⟩ | ⟨g, cap, cur, e8, e9, e10, e11, _⟩
                · omega
                · cases e8
                  exact ⟨g, rfl, e9, (hG.bd g (by simp [Value.ownBlock])).2, e11⟩
              obtain ⟨u0, u1⟩ := cellsZ_at zs q _ hz
              have g0 := hrow5.cells (g := g) rfl _ _ u0
              have g1 := hrow5.cells (g := g) rfl _ _ u1
              simp only [Addr.add_lit, Nat.zero_add] at g0 g1
              have hr35 : Rep w5 lo' hi' (encText x.text) (.slice A3 x.text.length c3) := r3W.keep hb5 (by omega)
              have hn6 := Text.n hT6
              subst hn6
              have hqn' : (q : Int) < (zs.length : Int) := by omega
              have HG2 := Lib.hid HG'
              have Hcut := Lib.hid hcut
              have HF := Lib.hid hF
              have HFb := Lib.hid hFb
              have Hfp := Lib.hid hq3
              have Hft := Lib.hid hq4
              have Hrest := Lib.hid hq5
              have Hzq := Lib.hid hz
              clear HG' hcut hF hFb hq1 hq2 hq3 hq4 hq5 hz hG hlf u0 u1 hrow2W hrowW hrow hrow2
              obtain ⟨m, hm⟩ : ∃ m, zs.length = q + m + 1 := ⟨zs.length - q - 1, by omega⟩
              have Hm := Lib.hid hm
              clear hm
              by_cases hk2 : x.kind = 2
              · have hkb2 : (x.kind == 2) = true := by simpa using hk2
                have K2 := Lib.hid hk2
                clear hk2
                have hsame := fun k => quiet_drew (slices_Equal_any A6 A3 txt.length c6 x.text.length c3 txt x.text (w5.drewN k) _ _ _ _ (hT6.drewN k) (hr35.drewN k))
                by_cases he : txt = x.text
                · rw [show decide (txt = x.text) = true by simp [he]] at hsame
                  have Ht := Lib.hid (all_takeC (t := xs) Hxm.out Hall.out (by unfold takeOk; rw [if_neg K1.out, ← Hr.out]; simp [K2.out, he]))
                  clear he
                  go_wp2
                  have hqd : decide ((q : Int) < 0) = false := decide_eq_false (by omega)
                  go_quiet ((go_at_call 28; with_reducible exact hsame _))
                  clear hqd
                  obtain ⟨V, hV⟩ : ∃ V : World, V = w5.drewN nq := ⟨_, rfl⟩
                  have hbV : Below w5.heap.size w5 V := by rw [hV]; exact below_drewN (Below.refl _ _) _
                  rw [← hV]
                  clear hV hsame
                  have hs5V := hbV.size
                  have hb5V : Below w2.heap.size w2 V := hb5w.trans (hbV.mono (by omega))
                  have hb53V : Below w3.heap.size W V := hb53.trans (hbV.mono (by omega))
                  have hrowV : V.ownsRow w2.heap.size 48 2 (.slice (some ⟨g, 0, none⟩) zs.length c) zs.length (cellsZ zs) := ownsRow_same hrow5 (fun k hk => hbV.block k (hrow5.lt k (by simpa using hk)).2)
                  have hrow2V : V.ownsRow w3.heap.size 48 2 (.slice Bt tk.length ct) tk.length (cellsZ tk) := ownsRow_same hrow25 (fun k hk => hbV.block k (hrow25.lt k (by simpa using hk)).2)
                  have hkV := hk5.up (hbV.mono (by omega : w3.heap.size ≤ w5.heap.size))
                  have q0 : V.cell? ⟨g, q * 2, none⟩ = some (.string ⟨f.path.toArray⟩) := (hbV.cell (p := ⟨g, q * 2, none⟩) (by show g < w5.heap.size; omega)).trans g0
                  have q1 : V.cell? ⟨g, q * 2 + 1, none⟩ = some (.slice A6 txt.length c6) := (hbV.cell (p := ⟨g, q * 2 + 1, none⟩) (by show g < w5.heap.size; omega)).trans g1
                  have HttV := Lib.hid (fun z hz => (HttW.out z hz).keep (hb5.trans (hbV.mono hs5) |>.mono (by omega : w2.heap.size ≤ W.heap.size)) hB)
                  clear hrow5 hrow25 hk5 g0 g1 hb5 hbV p05 p35 hr35 hT6 HttW
                  go_wp2_with (at_builtin; go_loud (refine wpList_append_src _ rfl (.tmp 66) (.tmp 71) _ rfl w3.heap.size 48 ih _ 2 40 Tryz.underlying26 gi0 gi1 gi2 gi3 rfl (by omega) _ tk.length _ rfl (hrow2V.alloc _) _ 1 1 [.string ⟨f.path.toArray⟩, .slice A6 txt.length c6] rfl (Src.lit V 48 [.string ⟨f.path.toArray⟩, .slice A6 txt.length c6] 2 1 rfl) ?e2 ?e3 ?e4 ?e5 ?_))
                  case e2 => first | (exact ⟨rfl, rfl⟩) | (intro u hu; simp at hu; rcases hu with rfl | rfl <;> rfl)
                  case e3 => unfold maxLen; omega
                  case e4 => omega
                  case e5 => first | (have := hb53V.size; simp; omega) | omega
                  intro A8 c8 w8 hown8 hg8 hat8
                  obtain ⟨tk', htk'⟩ : ∃ tk', tk' = tk ++ [((f : PFile), Value.slice A6 txt.length c6)] := ⟨_, rfl⟩
                  have hl' : tk'.length = tk.length + 1 := by rw [htk']; simp
                  have hb8 : Below w3.heap.size V w8 := ((Below.refl w3.heap.size V).alloc (by omega) _).grown hg8 (by simp; omega) (fun g hg => (hrow2V.lt g hg).1)
                  have hs8 : w3.heap.size ≤ w8.heap.size := by have := hb8.size; omega
                  have hrow8 : w8.ownsRow w2.heap.size 48 2 (.slice (some ⟨g, 0, none⟩) zs.length c) zs.length (cellsZ zs) := by
                    obtain ⟨G, hG⟩ := Htx.out
                    exact hG.row hrowV hb8
                  have hrow28 : w8.ownsRow w3.heap.size 48 2 (.slice A8 tk'.length c8) tk'.length (cellsZ tk') := by
                    rw [hl', htk', cellsZ_append]
                    exact hown8
                  have hk8 := hkV.up hb8
                  have hb82 := hb5V.trans (hb8.mono hs23)
                  have hone : ∀ u ∈ cellsZ zs, u.oneCell' = true := by
                    obtain ⟨G, hG⟩ := Htx.out
                    exact Owns.one hG.own
                  have hrow8' := hrow8
                  rw [Hm.out] at hrow8'
                  have hdel := delete_own (some ⟨g, 0, none⟩) q m c w2.heap.size (cellsZ zs) w8 hrow8' (by have := Hm.out; omega) hone
                  rw [← Hm.out] at hdel
                  have hgb : (Value.slice (some ⟨g, 0, none⟩) zs.length c).ownBlock = some g := rfl
                  rw [hgb, Hcut.out] at hdel
                  obtain ⟨zs', hzs'⟩ : ∃ zs', zs' = zs.take q ++ zs.drop (q + 1) := ⟨_, rfl⟩
                  have hlz : zs'.length = q + m := by rw [hzs', List.length_append, List.length_take, List.length_drop, Hm.out]; omega
                  rw [← hzs', ← hlz] at hdel
                  have HG3 := Lib.hid (show ∃ G, Texts w3 w2.heap.size w3.heap.size (Value.slice (some ⟨g, 0, none⟩) 0 c).ownBlock zs' G by rw [hzs']; exact HG2.out)
                  have Hx1 := Lib.hid (show filesZ tk' = (ys.take (k + 1)).map (takenF xs) by
                    rw [htk']
                    refine taken_next Hxm.out Htk.out ?_
                    rw [takenF0 K1.out]
                    unfold oldAt
                    rw [← Hr.out, Option.getD_some, ← Hfp.out, ← Hft.out])
                  have Hx2 := Lib.hid (show ∀ z ∈ tk', TK w3 w2.heap.size w3.heap.size (Value.slice (some ⟨g, 0, none⟩) 0 c).ownBlock w8 lo' hi' z from fun z hz => by
                    rw [htk'] at hz
                    rcases List.mem_append.1 hz with hz | hz
                    · exact (HttV.out z hz).keep (hb8.mono hs23) hB
                    · simp at hz
                      subst hz
                      exact .inl ⟨F, HF.out, HFb.out⟩)
                  have Hx3 := Lib.hid (show filesZ zs' = takes xs (ys.take (k + 1)) by
                    rw [takes_next Hxm.out, ← Hzs.out]
                    unfold restC
                    rw [if_neg K1.out, hzs', ← Hrest.out]
                    unfold filesZ
                    rw [List.map_append, List.map_take, List.map_drop])
                  have Hx5 := Lib.hid (show tk'.length = k + 1 by rw [hl', Htl.out])
                  have hlz8 : zs'.length ≤ 8 := by have := Hm.out; omega
                  have hwq : IntKind.i64.wrap ((q : Int) + 1) = (q : Int) + 1 := by rw [IntKind.wrap_i64]; omega
                  have Hl' := Lib.hid hl'
                  have Hone := Lib.hid hone
                  have Hlz := Lib.hid hlz
                  clear hown8 hg8 hat8 htk' hl' hrow2V hrowV hb8 hrow8 hrow8' hgb hone hlz hzs' q0 q1
                  go_wp2_with fail
                  refine Calls.mono hdel ?_
                  rintro e w9 ⟨rfl, hrow9, hg9⟩
                  have hs9 := hg9.size
                  have hk9 := hk8.grown hg9 hs8 (fun g9 h9 => .inl h9)
                  have hrow29 : w9.ownsRow w3.heap.size 48 2 (.slice A8 tk'.length c8) tk'.length (cellsZ tk') := ownsRow_same hrow28 (fun k9 hk => hg9.block k9 (hrow28.lt k9 (by simpa using hk)).2 (fun e9 => by
                    have h9 := (hrow28.lt k9 (by simpa using hk)).1
                    have : k9 = g := Option.some.inj e9
                    omega))
                  have hb9 : Below w2.heap.size w2 w9 := hb82.grown hg9 (by omega) (fun g9 h9 => by have : g = g9 := Option.some.inj h9; omega)
                  have hs93 : w3.heap.size ≤ w9.heap.size := by omega
                  have Hx6 := Lib.hid (show ∀ z ∈ tk', TK w3 w2.heap.size w3.heap.size (Value.slice (some ⟨g, 0, none⟩) 0 c).ownBlock w9 lo' hi' z from fun z hz => by
                    rcases Hx2.out z hz with h9 | h9
                    · exact .inl h9
                    · exact .inr (h9.same (Same.of_grown hg9 (by omega) (fun g9 h8 => by have : g = g9 := Option.some.inj h8; omega))))
                  have Hrow9 := Lib.hid hrow9
                  clear hdel hrow28 hg9 hk8 hrow9
                  go_wp2
                  go_roundw
                  case rel => exact ⟨k + 1, zs', tk', A8, c8, by omega, rfl, by rw [Hl'.out], by go_num, Hx3, Ht, Hx1, HG3, Hx6, Hx5, hlz8, Hrow9.out, hrow29, hk9, hs93, hb9⟩
                  case measure => simp [intOf]; omega
                · rw [show decide (txt = x.text) = false by simp [he]] at hsame
                  have Hn := Lib.hid (show v = none by rw [Hv.out, all_notC (t := xs) Hxm.out (by unfold takeOk; rw [if_neg K1.out, ← Hr.out]; simp [K2.out, he])]; rfl)
                  clear he
                  go_wp2
                  have hqd : decide ((q : Int) < 0) = false := decide_eq_false (by omega)
                  go_quiet ((go_at_call 28; with_reducible exact hsame _))
                  clear hqd
                  go_wp2
                  go_ret2
                  exact ⟨none, 0, 0, by rw [Hn.out]; rfl, below_drewN (hb12.trans (hb5w.mono hs12)) _, by rw [Hn.out]; exact Fresh.nil _ _ _ _ _⟩
              · have hkb2 : (x.kind == 2) = false := by simpa using hk2
                have Ht := Lib.hid (all_takeC (t := xs) Hxm.out Hall.out (by unfold takeOk; rw [if_neg K1.out, ← Hr.out]; simp [hk2]))
                clear hk2
                go_wp2
                have hqd : decide ((q : Int) < 0) = false := decide_eq_false (by omega)
                go_quiet (fail)
                clear hqd
                obtain ⟨V, hV⟩ : ∃ V : World, V = w5.drewN nq := ⟨_, rfl⟩
                have hbV : Below w5.heap.size w5 V := by rw [hV]; exact below_drewN (Below.refl _ _) _
                rw [← hV]
                clear hV
                have hs5V := hbV.size
                have hb5V : Below w2.heap.size w2 V := hb5w.trans (hbV.mono (by omega))
                have hb53V : Below w3.heap.size W V := hb53.trans (hbV.mono (by omega))
                have hrowV : V.ownsRow w2.heap.size 48 2 (.slice (some ⟨g, 0, none⟩) zs.length c) zs.length (cellsZ zs) := ownsRow_same hrow5 (fun k hk => hbV.block k (hrow5.lt k (by simpa using hk)).2)
                have hrow2V : V.ownsRow w3.heap.size 48 2 (.slice Bt tk.length ct) tk.length (cellsZ tk) := ownsRow_same hrow25 (fun k hk => hbV.block k (hrow25.lt k (by simpa using hk)).2)
                have hkV := hk5.up (hbV.mono (by omega : w3.heap.size ≤ w5.heap.size))
                have q0 : V.cell? ⟨g, q * 2, none⟩ = some (.string ⟨f.path.toArray⟩) := (hbV.cell (p := ⟨g, q * 2, none⟩) (by show g < w5.heap.size; omega)).trans g0
                have q1 : V.cell? ⟨g, q * 2 + 1, none⟩ = some (.slice A6 txt.length c6) := (hbV.cell (p := ⟨g, q * 2 + 1, none⟩) (by show g < w5.heap.size; omega)).trans g1
                have HttV := Lib.hid (fun z hz => (HttW.out z hz).keep (hb5.trans (hbV.mono hs5) |>.mono (by omega : w2.heap.size ≤ W.heap.size)) hB)
                clear hrow5 hrow25 hk5 g0 g1 hb5 hbV p05 p35 hr35 hT6 HttW
                go_wp2_with (at_builtin; go_loud (refine wpList_append_src _ rfl (.tmp 66) (.tmp 71) _ rfl w3.heap.size 48 ih _ 2 40 Tryz.underlying26 gi0 gi1 gi2 gi3 rfl (by omega) _ tk.length _ rfl (hrow2V.alloc _) _ 1 1 [.string ⟨f.path.toArray⟩, .slice A6 txt.length c6] rfl (Src.lit V 48 [.string ⟨f.path.toArray⟩, .slice A6 txt.length c6] 2 1 rfl) ?e2 ?e3 ?e4 ?e5 ?_))
                case e2 => first | (exact ⟨rfl, rfl⟩) | (intro u hu; simp at hu; rcases hu with rfl | rfl <;> rfl)
                case e3 => unfold maxLen; omega
                case e4 => omega
                case e5 => first | (have := hb53V.size; simp; omega) | omega
                intro A8 c8 w8 hown8 hg8 hat8
                obtain ⟨tk', htk'⟩ : ∃ tk', tk' = tk ++ [((f : PFile), Value.slice A6 txt.length c6)] := ⟨_, rfl⟩
                have hl' : tk'.length = tk.length + 1 := by rw [htk']; simp
                have hb8 : Below w3.heap.size V w8 := ((Below.refl w3.heap.size V).alloc (by omega) _).grown hg8 (by simp; omega) (fun g hg => (hrow2V.lt g hg).1)
                have hs8 : w3.heap.size ≤ w8.heap.size := by have := hb8.size; omega
                have hrow8 : w8.ownsRow w2.heap.size 48 2 (.slice (some ⟨g, 0, none⟩) zs.length c) zs.length (cellsZ zs) := by
                  obtain ⟨G, hG⟩ := Htx.out
                  exact hG.row hrowV hb8
                have hrow28 : w8.ownsRow w3.heap.size 48 2 (.slice A8 tk'.length c8) tk'.length (cellsZ tk') := by
                  rw [hl', htk', cellsZ_append]
                  exact hown8
                have hk8 := hkV.up hb8
                have hb82 := hb5V.trans (hb8.mono hs23)
                have hone : ∀ u ∈ cellsZ zs, u.oneCell' = true := by
                  obtain ⟨G, hG⟩ := Htx.out
                  exact Owns.one hG.own
                have hrow8' := hrow8
                rw [Hm.out] at hrow8'
                have hdel := delete_own (some ⟨g, 0, none⟩) q m c w2.heap.size (cellsZ zs) w8 hrow8' (by have := Hm.out; omega) hone
                rw [← Hm.out] at hdel
                have hgb : (Value.slice (some ⟨g, 0, none⟩) zs.length c).ownBlock = some g := rfl
                rw [hgb, Hcut.out] at hdel
                obtain ⟨zs', hzs'⟩ : ∃ zs', zs' = zs.take q ++ zs.drop (q + 1) := ⟨_, rfl⟩
                have hlz : zs'.length = q + m := by rw [hzs', List.length_append, List.length_take, List.length_drop, Hm.out]; omega
                rw [← hzs', ← hlz] at hdel
                have HG3 := Lib.hid (show ∃ G, Texts w3 w2.heap.size w3.heap.size (Value.slice (some ⟨g, 0, none⟩) 0 c).ownBlock zs' G by rw [hzs']; exact HG2.out)
                have Hx1 := Lib.hid (show filesZ tk' = (ys.take (k + 1)).map (takenF xs) by
                  rw [htk']
                  refine taken_next Hxm.out Htk.out ?_
                  rw [takenF0 K1.out]
                  unfold oldAt
                  rw [← Hr.out, Option.getD_some, ← Hfp.out, ← Hft.out])
                have Hx2 := Lib.hid (show ∀ z ∈ tk', TK w3 w2.heap.size w3.heap.size (Value.slice (some ⟨g, 0, none⟩) 0 c).ownBlock w8 lo' hi' z from fun z hz => by
                  rw [htk'] at hz
                  rcases List.mem_append.1 hz with hz | hz
                  · exact (HttV.out z hz).keep (hb8.mono hs23) hB
                  · simp at hz
                    subst hz
                    exact .inl ⟨F, HF.out, HFb.out⟩)
                have Hx3 := Lib.hid (show filesZ zs' = takes xs (ys.take (k + 1)) by
                  rw [takes_next Hxm.out, ← Hzs.out]
                  unfold restC
                  rw [if_neg K1.out, hzs', ← Hrest.out]
                  unfold filesZ
                  rw [List.map_append, List.map_take, List.map_drop])
                have Hx5 := Lib.hid (show tk'.length = k + 1 by rw [hl', Htl.out])
                have hlz8 : zs'.length ≤ 8 := by have := Hm.out; omega
                have hwq : IntKind.i64.wrap ((q : Int) + 1) = (q : Int) + 1 := by rw [IntKind.wrap_i64]; omega
                have Hl' := Lib.hid hl'
                have Hone := Lib.hid hone
                have Hlz := Lib.hid hlz
                clear hown8 hg8 hat8 htk' hl' hrow2V hrowV hb8 hrow8 hrow8' hgb hone hlz hzs' q0 q1
                go_wp2_with fail
                refine Calls.mono hdel ?_
                rintro e w9 ⟨rfl, hrow9, hg9⟩
                have hs9 := hg9.size
                have hk9 := hk8.grown hg9 hs8 (fun g9 h9 => .inl h9)
                have hrow29 : w9.ownsRow w3.heap.size 48 2 (.slice A8 tk'.length c8) tk'.length (cellsZ tk') := ownsRow_same hrow28 (fun k9 hk => hg9.block k9 (hrow28.lt k9 (by simpa using hk)).2 (fun e9 => by
                  have h9 := (hrow28.lt k9 (by simpa using hk)).1
                  have : k9 = g := Option.some.inj e9
                  omega))
                have hb9 : Below w2.heap.size w2 w9 := hb82.grown hg9 (by omega) (fun g9 h9 => by have : g = g9 := Option.some.inj h9; omega)
                have hs93 : w3.heap.size ≤ w9.heap.size := by omega
                have Hx6 := Lib.hid (show ∀ z ∈ tk', TK w3 w2.heap.size w3.heap.size (Value.slice (some ⟨g, 0, none⟩) 0 c).ownBlock w9 lo' hi' z from fun z hz => by
                  rcases Hx2.out z hz with h9 | h9
                  · exact .inl h9
                  · exact .inr (h9.same (Same.of_grown hg9 (by omega) (fun g9 h8 => by have : g = g9 := Option.some.inj h8; omega))))
                have Hrow9 := Lib.hid hrow9
                clear hdel hrow28 hg9 hk8 hrow9
                go_wp2
                go_roundw
                case rel => exact ⟨k + 1, zs', tk', A8, c8, by omega, rfl, by rw [Hl'.out], by go_num, Hx3, Ht, Hx1, HG3, Hx6, Hx5, hlz8, Hrow9.out, hrow29, hk9, hs93, hb9⟩
                case measure => simp [intOf]; omega
        ·
          obtain rfl : k = ys.length := by omega
          rw [List.take_length] at Hzs Hall Htk
          obtain ⟨T, hT⟩ : ∃ T, T = takes xs ys := ⟨_, rfl⟩
          have hlz := filesZ_len zs
          rw [← hT] at Hzs
          have hTl : T.length ≤ 8 := by rw [← Hzs.out]; omega
          have HTa := Lib.hid (show ascT T by have h9 := Hasc.out ys.length; rw [List.take_length, ← hT] at h9; exact h9)
          have HTo := Lib.hid (show okTree T from fun y hy => HT.out y (by rw [hT] at hy; exact takes_sub ys xs y hy))
          have HTx := Lib.hid (show ∀ y ∈ T, textOk y.text = true from fun y hy => textOk10 E1.out y (by rw [hT] at hy; exact takes_sub ys xs y hy))
          have hF0 : Fresh wo w2.heap.size wo.heap.size (encFiles T) (.slice A zs.length c) := by
            obtain ⟨G, hG⟩ := Htx.out
            rw [ownB A 0 zs.length c c] at hG hkept
            have h9 := hG.fresh hkept hrow hwsz
            rw [Hzs.out] at h9
            exact h9
          have hM : Rep wo 0 wo.heap.size (encFiles (filesZ tk)) (.slice Bt tk.length ct) := rep_zs hrow2 (Nat.zero_le _) (fun z hz => (Htt.out z hz).rep hkept (Below.refl _ _) hB hwsz (by omega))
          rw [Htk.out] at hM
          obtain ⟨M, hMd⟩ : ∃ M, M = ys.map (takenF xs) := ⟨_, rfl⟩
          rw [← hMd] at hM
          have hMl : M.length = ys.length := by rw [hMd, List.length_map]
          obtain ⟨nt, hnt⟩ : ∃ nt, nt = tk.length := ⟨_, rfl⟩
          rw [← hnt] at hM ⊢
          have hMn := Files.n hM
          obtain ⟨hcM, hmM⟩ := Files.cap hM
          have hnty : nt = ys.length := by omega
          have HMk := Lib.hid (fun (k : Nat) (x : PChange) (hx : ys[k]? = some x) => show M[k]? = some (takenF xs x) by rw [hMd, List.getElem?_map, hx]; rfl)
          have Hvp := Lib.hid (show v = lastOk (putAll xs ys T) by rw [Hv.out, hT, if_pos Hall.out])
          have HTk := Lib.hid (fun (k : Nat) (x : PChange) (hx : ys[k]? = some x) => List.all_eq_true.1 Hall.out x (List.mem_of_getElem? hx))
          have h2c := h2b.keep hb hB
          have hsb := hb.size
          have hBo : hi' ≤ wo.heap.size := by omega
          have hbw : Below w.heap.size w wo := hb12.trans (hb.mono hs12)
          have Hnt := Lib.hid hnty
          have hzc : zs.length = T.length := by rw [← Hzs.out]; exact hlz.symm
          rw [hzc] at hF0 ⊢
          clear hT hMd hlz hMl hMn hnt hnty hzc hR htl Hzs Hall Htk Htx Htt Htl hz8 hrow hrow2 hkept hwsz hb Htx0 Hz0 hrow0 hb3 hb13 Hasc Hga Hv h2b
          go_wp2
          go_loopw [6, 81] (fun t i wr => ∃ (k : Nat) (o : List PFile) (A' : Option Addr) (n' c' : Nat), k ≤ ys.length ∧ t = .slice A' n' c' ∧ i = .int .i64 k ∧ Hid (putAll xs ys T = putAll xs (ys.drop k) o) ∧ ascT o ∧ o.length ≤ 8 + k ∧ Hid (okTree o) ∧ Hid (∀ y ∈ o, textOk y.text = true) ∧ Fresh wr w2.heap.size wr.heap.size (encFiles o) (.slice A' n' c') ∧ Below wo.heap.size wo wr) (fun _ i _ => ys.length - (intOf i).toNat)
          case atStart => exact ⟨0, T, A, _, c, Nat.zero_le _, rfl, rfl, Lib.hid rfl, HTa.out, by omega, HTo, HTx, hF0, Below.refl _ _⟩
          case round =>
            clear hF0
            obtain ⟨k, o, A', n', c', hk, rfl, rfl, hpu, hasc, hol, Hok, Hot, hFo, hb⟩ := hrel
            have hsz := hb.size
            have hno := Files.n hFo.rep
            obtain ⟨hco, hmo⟩ := Files.cap hFo.rep
            subst hno
            obtain ⟨wq, rfl⟩ : ∃ wq : World, wq = wr := ⟨_, rfl⟩
            by_cases hkn : k < ys.length
            · have hkn' : (k : Int) < (ys.length : Int) := by omega
              have hknt : (k : Int) < (nt : Int) := by have := Hnt.out; omega
              obtain ⟨b1, o1, x, rfl, _, hbhi, hx, A3, n3, c3, A4, n4, c4, d0, d1, d2, d3, r3, d4, r4⟩ := Changes.at (h2c.keep hb hBo) hkn
              have hn3 := Text.n r3
              have hn4 := Hunks.n r4
              subst hn3 hn4
              obtain ⟨b2, o2, f0, rfl, _, hb2hi, hf0, A5, n5, c5, e0, e1, r5⟩ := Files.at (hM.keep hb (Nat.le_refl _)) (show k < nt by omega)
              have hn5 := Text.n r5
              subst hn5
              have hf0' : f0 = takenF xs x := Option.some.inj (hf0.symm.trans (HMk.out k x hx))
              have Hst0 := Lib.hid (putAll_next (t := xs) hx o)
              have hxm := List.mem_of_getElem? hx
              have hkinds := changeOk_kinds (Hco.out x hxm)
              have hps := Hz.out x hxm
              have Htko := Lib.hid (HTk.out k x hx)
              have Hoc := Lib.hid (Hs.out x hxm)
              have Hf0 := Lib.hid hf0'
              have hfp : f0.path = x.path := by rw [hf0']; unfold takenF; split <;> rfl
              rw [hfp] at e0
              clear hx hxm hf0 hf0' hfp
              obtain ⟨W, hW⟩ : ∃ W : World, W = (wq.alloc (.cells #[.int .i64 x.kind, .string ⟨x.path.toArray⟩, .string ⟨x.dest.toArray⟩, .slice A3 x.text.length c3, .slice A4 x.patch.length c4] 52)).alloc (.cells #[.string ⟨x.path.toArray⟩, .slice A5 f0.text.length c5] 48) := ⟨_, rfl⟩
              have hbW : Below wq.heap.size wq W := by rw [hW]; exact ((Below.refl _ _).alloc (Nat.le_refl _) _).alloc (by simp) _
              have hWlt : wq.heap.size + 1 < W.heap.size := by rw [hW]; simp
              have p0 : W.cell? ⟨wq.heap.size, 0, none⟩ = some (.int .i64 x.kind) := by rw [hW]; simp [go_sem]
              have p2 : W.cell? ⟨wq.heap.size, 2, none⟩ = some (.string ⟨x.dest.toArray⟩) := by rw [hW]; simp [go_sem]
              have p4 : W.cell? ⟨wq.heap.size, 4, none⟩ = some (.slice A4 x.patch.length c4) := by rw [hW]; simp [go_sem]
              have hrow : W.heap[wq.heap.size + 1]? = some (Obj.cells #[.string ⟨x.path.toArray⟩, .slice A5 f0.text.length c5] 48) := by
                rw [hW]
                have h9 := heap_new' (wq.alloc (.cells #[.int .i64 x.kind, .string ⟨x.path.toArray⟩, .string ⟨x.dest.toArray⟩, .slice A3 x.text.length c3, .slice A4 x.patch.length c4] 52)) (.cells #[.string ⟨x.path.toArray⟩, .slice A5 f0.text.length c5] 48)
                simpa using h9
              have r5W : Rep W 0 wo.heap.size (encText f0.text) (.slice A5 f0.text.length c5) := r5.keep hbW hsz
              have r4W : Rep W lo' hi' (encHunks x.patch) (.slice A4 x.patch.length c4) := r4.keep hbW (by omega)
              have e0x := fun O => (((Below.refl wq.heap.size wq).alloc (Nat.le_refl _) O).cell (p := ⟨b2, o2 + k * 2, none⟩) (by show b2 < wq.heap.size; omega)).trans e0
              have e1x := fun O => (((Below.refl wq.heap.size wq).alloc (Nat.le_refl _) O).cell (p := ⟨b2, o2 + k * 2 + 1, none⟩) (by show b2 < wq.heap.size; omega)).trans e1
              go_upto_region 20 with fail
              rw [← hW]
              clear hW d0 d1 d2 d3 d4 r3 r4 r5 e0 e1 e0x e1x
              have hsW := hbW.size
              have hbWw : Below wo.heap.size wo W := hb.trans (hbW.mono hsz)
              obtain ⟨z0, z1, zf⟩ := row_cells hrow
              have hoe : textOk f0.text = true → f0.text.length ≤ 10 := textOk_len
              rcases hkinds with ⟨hk1, htx⟩ | hk2 | ⟨hk3, hpo⟩ | hk4
              · -- an addition
                have kb1 : (x.kind == 2) = false := by simp [hk1]
                have kb2 : (x.kind == 3) = false := by simp [hk1]
                have kb3 : (x.kind == 4) = false := by simp [hk1]
                have hf0 : f0 = ⟨x.path, x.text⟩ := by rw [Hf0.out]; exact takenF1 hk1
                obtain ⟨f, hf⟩ : ∃ f : PFile, f = ⟨x.path, x.text⟩ := ⟨_, rfl⟩
                have Hst := Lib.hid (show putAll xs (ys.drop k) o = if hasF o f.path = true then none else putAll xs (ys.drop (k + 1)) (setF o f) by rw [Hst0.out, if_neg (by omega)]; unfold fileOf; rw [if_pos hk1, hf])
                have Hfok := Lib.hid (show f.path.length ≤ 1073741824 ∧ textOk f.text = true by rw [hf]; exact ⟨hps.1, htx⟩)
                have hfp : f.path = x.path := by rw [hf]
                have rV0 : Rep W 0 wo.heap.size (encText f.text) (.slice A5 f0.text.length c5) := by rw [hf0] at r5W ⊢; rw [hf]; exact r5W
                obtain ⟨V, hV⟩ : ∃ V : World, V = W := ⟨_, rfl⟩
                have hbV : Below wq.heap.size wq V := by rw [hV]; exact hbW
                obtain ⟨Af, nf, cf, hAf⟩ : ∃ Af nf cf, (Value.slice Af nf cf) = .slice A5 f0.text.length c5 := ⟨_, _, _, rfl⟩
                obtain ⟨lo9, hi9, hi9V, rV⟩ : ∃ lo9 hi9, hi9 ≤ V.heap.size ∧ Rep V lo9 hi9 (encText f.text) (.slice Af nf cf) := ⟨0, wo.heap.size, by rw [hV]; omega, by rw [hV, hAf]; exact rV0⟩
                rw [← hAf] at z1
                rw [← hfp] at z0
                clear hk1 hf hf0 hAf hfp htx hrow zf p4 p2 rV0 r5W r4W
                go_upto_region 29 with fail
                rw [← hV]
                rw [← hV] at z0 z1
                clear hV
                have hsV := hbV.size
                have hft := textOk_len Hfok.out.2
                have hput := impl_put_any A' Af o.length c' nf cf o f V _ _ lo9 hi9 (hFo.rep.keep hbV (Nat.le_refl _)) rV hsV hi9V ⟨by omega, fun y hy => by have := textOk_len (Hot.out y hy); omega⟩ (by omega) hasc
                obtain ⟨hf9, hhf9⟩ : ∃ hf9, hf9 = hasF o f.path := ⟨_, rfl⟩
                rw [← hhf9] at hput
                have Hhf := Lib.hid hhf9
                clear hhf9
                go_wp2_with fail
                refine Calls.mono hput ?_
                rintro e w9 ⟨A9, n9, c9, rfl, hb9, hF9⟩
                have hbV9 := hb.trans ((hbV.trans (hb9.mono hsV)).mono hsz)
                clear hput
                cases hf9 with
                | true =>
                  have Hn := Lib.hid (show v = none by rw [Hvp.out, hpu.out, Hst.out, ← Hhf.out]; rfl)
                  simp only [Bool.not_true]
                  go_wp2
                  go_ret2
                  exact ⟨none, 0, 0, by rw [Hn.out]; rfl, hbw.trans (hbV9.mono (by omega)), by rw [Hn.out]; exact Fresh.nil _ _ _ _ _⟩
                | false =>
                  have Hst2 := Lib.hid (show putAll xs (ys.drop k) o = putAll xs (ys.drop (k + 1)) (setF o f) by rw [Hst.out, ← Hhf.out]; rfl)
                  have hlen := setF_len hasc f
                  have hif : (if hasF o f.path = true then 0 else 1) ≤ 1 := by split <;> omega
                  have Hlen := Lib.hid (show (setF o f).length ≤ 8 + (k + 1) by rw [hlen]; omega)
                  have Hasc9 := Lib.hid (setF_asc hasc f)
                  have Hok2 := Lib.hid (show okTree (setF o f) from fun y hy => (setF_mem hy).elim (fun e => e ▸ ⟨Hfok.out.1, textOk_len1 Hfok.out.2⟩) (fun h9 => Hok.out y h9))
                  have Hot2 := Lib.hid (show ∀ y ∈ setF o f, textOk y.text = true from fun y hy => (setF_mem hy).elim (fun e => e ▸ Hfok.out.2) (fun h9 => Hot.out y h9))
                  have HF9 := Lib.hid (hF9.mono (show w2.heap.size ≤ V.heap.size by omega) (Nat.le_refl _))
                  simp only [Bool.not_false]
                  clear hlen hif hF9 hb9
                  go_wp2
                  go_roundw
                  case rel => exact ⟨k + 1, setF o f, _, _, _, by omega, rfl, by go_num, Lib.hid (by rw [hpu.out, Hst2.out]), Hasc9.out, Hlen.out, Hok2, Hot2, HF9.out, hbV9⟩
                  case measure => simp [intOf]; omega
              · -- a drop
                have kb1 : (x.kind == 2) = true := by simp [hk2]
                have Hst := Lib.hid (show putAll xs (ys.drop k) o = putAll xs (ys.drop (k + 1)) o by rw [Hst0.out, if_pos hk2])
                have hF9 : Fresh W w2.heap.size W.heap.size (encFiles o) (.slice A' o.length c') := (hFo.keep hbW (Nat.le_refl _)).mono (Nat.le_refl _) hsW
                clear hk2
                go_wp2
                go_roundw
                case rel => exact ⟨k + 1, o, A', _, c', by omega, rfl, by go_num, Lib.hid (by rw [hpu.out, Hst.out]), hasc, by omega, Hok, Hot, hF9, hbWw⟩
                case measure => simp [intOf]; omega
              · -- an edit
                have kb1 : (x.kind == 2) = false := by simp [hk3]
                have kb2 : (x.kind == 3) = true := by simp [hk3]
                have kb3 : (x.kind == 4) = false := by simp [hk3]
                have hf0 : f0 = ⟨x.path, oldAt xs x⟩ := by rw [Hf0.out]; exact takenF0 (by omega)
                have hdo := impl_PatchDo_any A5 A4 f0.text.length c5 x.patch.length c4 f0.text x.patch W _ _ lo' hi' r5W r4W (by omega) (by omega)
                obtain ⟨pd, hpd⟩ : ∃ pd, pd = patchDo f0.text x.patch := ⟨_, rfl⟩
                rw [← hpd] at hdo
                have Hfo := Lib.hid (show fileOf xs x = pd.map (fun t => ⟨x.path, t⟩) by unfold fileOf; rw [if_neg (by omega), if_pos hk3, hpd, hf0])
                have Hpd := Lib.hid (fun t (h9 : pd = some t) => patchDo_textOk (hpd ▸ h9 : patchDo f0.text x.patch = some t))
                have Hk3 := Lib.hid hk3
                clear hpo hk3 hpd hf0
                go_wp2_with fail
                refine Calls.mono hdo ?_
                rintro e w6 ⟨A6, n6, c6, rfl, hb6, hf6⟩
                have hs6 := hb6.size
                have hb6o : Below wq.heap.size wq w6 := hbW.trans (hb6.mono hsW)
                clear hdo
                cases pd with
                | none =>
                  have Hn := Lib.hid (show v = none by rw [Hvp.out, hpu.out, Hst0.out, if_neg (by rw [Hk3.out]; omega), Hfo.out]; rfl)
                  simp only [Option.isSome_none]
                  go_wp2
                  go_ret2
                  exact ⟨none, 0, 0, by rw [Hn.out]; rfl, hbw.trans ((hb.trans (hb6o.mono hsz)).mono (by omega)), by rw [Hn.out]; exact Fresh.nil _ _ _ _ _⟩
                | some t =>
                  have hn6 := Text.n hf6.rep
                  rw [Option.getD_some] at hf6 hn6
                  subst hn6
                  have hto := Hpd.out t rfl
                  have hrow6 := (hb6.block (wq.heap.size + 1) (by omega)).trans hrow
                  obtain ⟨y0, y1, yf⟩ := row_cells hrow6
                  obtain ⟨V, hV⟩ : ∃ V : World, V = w6.setCell ⟨wq.heap.size + 1, 1, none⟩ (.slice A6 t.length c6) := ⟨_, rfl⟩
                  have hbV : Below wq.heap.size wq V := by rw [hV]; exact hb6o.setCell (by show wq.heap.size ≤ wq.heap.size + 1; omega) _
                  have hVs : V.heap.size = w6.heap.size := by rw [hV]; simp
                  obtain ⟨f, hf⟩ : ∃ f : PFile, f = ⟨x.path, t⟩ := ⟨_, rfl⟩
                  have hrowV : V.heap[wq.heap.size + 1]? = some (Obj.cells #[.string ⟨x.path.toArray⟩, .slice A6 t.length c6] 48) := by rw [hV]; exact heap_setCell_same w6 (wq.heap.size + 1) 1 _ _ _ hrow6
                  obtain ⟨z0', z1', zf'⟩ := row_cells hrowV
                  have rV0 : Rep V W.heap.size w6.heap.size (encText t) (.slice A6 t.length c6) := by rw [hV]; exact hf6.rep.same ((Same.refl _ _ _).setCell (.inl (by show wq.heap.size + 1 < W.heap.size; omega)) _)
                  have hfp : f.path = x.path := by rw [hf]
                  have Hst := Lib.hid (show putAll xs (ys.drop k) o = if hasF o f.path = true then none else putAll xs (ys.drop (k + 1)) (setF o f) by rw [Hst0.out, if_neg (by rw [Hk3.out]; omega), Hfo.out, hf]; rfl)
                  have Hfok := Lib.hid (show f.path.length ≤ 1073741824 ∧ textOk f.text = true by rw [hf]; exact ⟨hps.1, hto⟩)
                  obtain ⟨Af, nf, cf, hAf⟩ : ∃ Af nf cf, (Value.slice Af nf cf) = .slice A6 t.length c6 := ⟨_, _, _, rfl⟩
                  obtain ⟨lo9, hi9, hi9V, rV⟩ : ∃ lo9 hi9, hi9 ≤ V.heap.size ∧ Rep V lo9 hi9 (encText f.text) (.slice Af nf cf) := ⟨W.heap.size, w6.heap.size, by omega, by rw [hAf, hf]; exact rV0⟩
                  rw [← hAf] at z1'
                  rw [← hfp] at z0'
                  clear hf hAf hfp hto rV0 hf6 hrow hrow6 hrowV z0 z1 zf p0 p2 p4 hb6 hVs r5W r4W
                  simp only [Option.isSome_some]
                  go_upto_region 29 with fail
                  rw [← hV]
                  clear hV y0 y1 yf zf'
                  have hsV := hbV.size
                  have hft := textOk_len Hfok.out.2
                  have hput := impl_put_any A' Af o.length c' nf cf o f V _ _ lo9 hi9 (hFo.rep.keep hbV (Nat.le_refl _)) rV hsV hi9V ⟨by omega, fun y hy => by have := textOk_len (Hot.out y hy); omega⟩ (by omega) hasc
                  obtain ⟨hf9, hhf9⟩ : ∃ hf9, hf9 = hasF o f.path := ⟨_, rfl⟩
                  rw [← hhf9] at hput
                  have Hhf := Lib.hid hhf9
                  clear hhf9
                  go_wp2_with fail
                  refine Calls.mono hput ?_
                  rintro e w9 ⟨A9, n9, c9, rfl, hb9, hF9⟩
                  have hbV9 := hb.trans ((hbV.trans (hb9.mono hsV)).mono hsz)
                  clear hput
                  cases hf9 with
                  | true =>
                    have Hn := Lib.hid (show v = none by rw [Hvp.out, hpu.out, Hst.out, ← Hhf.out]; rfl)
                    simp only [Bool.not_true]
                    go_wp2
                    go_ret2
                    exact ⟨none, 0, 0, by rw [Hn.out]; rfl, hbw.trans (hbV9.mono (by omega)), by rw [Hn.out]; exact Fresh.nil _ _ _ _ _⟩
                  | false =>
                    have Hst2 := Lib.hid (show putAll xs (ys.drop k) o = putAll xs (ys.drop (k + 1)) (setF o f) by rw [Hst.out, ← Hhf.out]; rfl)
                    have hlen := setF_len hasc f
                    have hif : (if hasF o f.path = true then 0 else 1) ≤ 1 := by split <;> omega
                    have Hlen := Lib.hid (show (setF o f).length ≤ 8 + (k + 1) by rw [hlen]; omega)
                    have Hasc9 := Lib.hid (setF_asc hasc f)
                    have Hok2 := Lib.hid (show okTree (setF o f) from fun y hy => (setF_mem hy).elim (fun e => e ▸ ⟨Hfok.out.1, textOk_len1 Hfok.out.2⟩) (fun h9 => Hok.out y h9))
                    have Hot2 := Lib.hid (show ∀ y ∈ setF o f, textOk y.text = true from fun y hy => (setF_mem hy).elim (fun e => e ▸ Hfok.out.2) (fun h9 => Hot.out y h9))
                    have HF9 := Lib.hid (hF9.mono (show w2.heap.size ≤ V.heap.size by omega) (Nat.le_refl _))
                    simp only [Bool.not_false]
                    clear hlen hif hF9 hb9
                    go_wp2
                    go_roundw
                    case rel => exact ⟨k + 1, setF o f, _, _, _, by omega, rfl, by go_num, Lib.hid (by rw [hpu.out, Hst2.out]), Hasc9.out, Hlen.out, Hok2, Hot2, HF9.out, hbV9⟩
                    case measure => simp [intOf]; omega
              · -- a move
                have kb1 : (x.kind == 2) = false := by simp [hk4]
                have kb2 : (x.kind == 3) = false := by simp [hk4]
                have kb3 : (x.kind == 4) = true := by simp [hk4]
                have hf0 : f0 = ⟨x.path, oldAt xs x⟩ := by rw [Hf0.out]; exact takenF0 (by omega)
                obtain ⟨V, hV⟩ : ∃ V : World, V = W.setCell ⟨wq.heap.size + 1, 0, none⟩ (.string ⟨x.dest.toArray⟩) := ⟨_, rfl⟩
                have hbV : Below wq.heap.size wq V := by rw [hV]; exact hbW.setCell (by show wq.heap.size ≤ wq.heap.size + 1; omega) _
                have hVs : V.heap.size = W.heap.size := by rw [hV]; simp
                have hrowV : V.heap[wq.heap.size + 1]? = some (Obj.cells #[.string ⟨x.dest.toArray⟩, .slice A5 f0.text.length c5] 48) := by
                  rw [hV]
                  exact heap_setCell_same W (wq.heap.size + 1) 0 _ _ _ hrow
                obtain ⟨z0', z1', zf'⟩ := row_cells hrowV
                obtain ⟨f, hf⟩ : ∃ f : PFile, f = ⟨x.dest, oldAt xs x⟩ := ⟨_, rfl⟩
                have hfp : f.path = x.dest := by rw [hf]
                have hfo : fileOf xs x = some f := by unfold fileOf; rw [if_neg (by omega), if_neg (by omega), hf]
                have Hst := Lib.hid (show putAll xs (ys.drop k) o = if hasF o f.path = true then none else putAll xs (ys.drop (k + 1)) (setF o f) by rw [Hst0.out, if_neg (by omega), hfo])
                have Hfok := Lib.hid (show f.path.length ≤ 1073741824 ∧ textOk f.text = true by
                  rw [hf]
                  refine ⟨hps.2, ?_⟩
                  unfold oldAt
                  obtain ⟨y, hy, _⟩ := takeOk_get Htko.out (by omega)
                  rw [hy]
                  exact getAt_textOk E1.out hy)
                have rV0 : Rep V 0 wo.heap.size (encText f.text) (.slice A5 f0.text.length c5) := by
                  rw [hV, hf]
                  rw [hf0] at r5W ⊢
                  exact r5W.same ((Same.refl _ _ _).setCell (.inr (by show wo.heap.size ≤ wq.heap.size + 1; omega)) _)
                obtain ⟨Af, nf, cf, hAf⟩ : ∃ Af nf cf, (Value.slice Af nf cf) = .slice A5 f0.text.length c5 := ⟨_, _, _, rfl⟩
                obtain ⟨lo9, hi9, hi9V, rV⟩ : ∃ lo9 hi9, hi9 ≤ V.heap.size ∧ Rep V lo9 hi9 (encText f.text) (.slice Af nf cf) := ⟨0, wo.heap.size, by omega, by rw [hAf]; exact rV0⟩
                rw [← hAf] at z1'
                rw [← hfp] at z0'
                clear hf hf0 hAf hfp hfo rV0 hrow hrowV hk4 hVs r5W r4W
                go_upto_region 29 with fail
                rw [← hV]
                clear hV z0 z1 zf zf' p0 p2 p4
                have hsV := hbV.size
                have hft := textOk_len Hfok.out.2
                have hput := impl_put_any A' Af o.length c' nf cf o f V _ _ lo9 hi9 (hFo.rep.keep hbV (Nat.le_refl _)) rV hsV hi9V ⟨by omega, fun y hy => by have := textOk_len (Hot.out y hy); omega⟩ (by omega) hasc
                obtain ⟨hf9, hhf9⟩ : ∃ hf9, hf9 = hasF o f.path := ⟨_, rfl⟩
                rw [← hhf9] at hput
                have Hhf := Lib.hid hhf9
                clear hhf9
                go_wp2_with fail
                refine Calls.mono hput ?_
                rintro e w9 ⟨A9, n9, c9, rfl, hb9, hF9⟩
                have hbV9 := hb.trans ((hbV.trans (hb9.mono hsV)).mono hsz)
                clear hput
                cases hf9 with
                | true =>
                  have Hn := Lib.hid (show v = none by rw [Hvp.out, hpu.out, Hst.out, ← Hhf.out]; rfl)
                  simp only [Bool.not_true]
                  go_wp2
                  go_ret2
                  exact ⟨none, 0, 0, by rw [Hn.out]; rfl, hbw.trans (hbV9.mono (by omega)), by rw [Hn.out]; exact Fresh.nil _ _ _ _ _⟩
                | false =>
                  have Hst2 := Lib.hid (show putAll xs (ys.drop k) o = putAll xs (ys.drop (k + 1)) (setF o f) by rw [Hst.out, ← Hhf.out]; rfl)
                  have hlen := setF_len hasc f
                  have hif : (if hasF o f.path = true then 0 else 1) ≤ 1 := by split <;> omega
                  have Hlen := Lib.hid (show (setF o f).length ≤ 8 + (k + 1) by rw [hlen]; omega)
                  have Hasc9 := Lib.hid (setF_asc hasc f)
                  have Hok2 := Lib.hid (show okTree (setF o f) from fun y hy => (setF_mem hy).elim (fun e => e ▸ ⟨Hfok.out.1, textOk_len1 Hfok.out.2⟩) (fun h9 => Hok.out y h9))
                  have Hot2 := Lib.hid (show ∀ y ∈ setF o f, textOk y.text = true from fun y hy => (setF_mem hy).elim (fun e => e ▸ Hfok.out.2) (fun h9 => Hot.out y h9))
                  have HF9 := Lib.hid (hF9.mono (show w2.heap.size ≤ V.heap.size by omega) (Nat.le_refl _))
                  simp only [Bool.not_false]
                  clear hlen hif hF9 hb9
                  go_wp2
                  go_roundw
                  case rel => exact ⟨k + 1, setF o f, _, _, _, by omega, rfl, by go_num, Lib.hid (by rw [hpu.out, Hst2.out]), Hasc9.out, Hlen.out, Hok2, Hot2, HF9.out, hbV9⟩
                  case measure => simp [intOf]; omega
            · obtain rfl : k = ys.length := by omega
              have hfin : putAll xs ys T = some o := by rw [hpu.out, List.drop_length]; rfl
              have Hvl := Lib.hid (show v = if treeOk o = true then some o else none by rw [Hvp.out, hfin]; rfl)
              have hq := impl_TreeOk_any A' o.length c' o wq _ _ hFo.rep (Nat.le_refl _) Hok.out
              obtain ⟨okf, hokf⟩ : ∃ okf, okf = treeOk o := ⟨_, rfl⟩
              rw [← hokf] at hq Hvl
              clear hokf hfin hpu
              go_wp2_with fail
              refine Calls.mono hq ?_
              rintro e w6 ⟨rfl, hb6⟩
              have hs6 := hb6.size
              have hbz := hbw.trans ((hb.trans (hb6.mono hsz)).mono (by omega))
              have HF6 := Lib.hid ((hFo.keep hb6 (Nat.le_refl _)).mono (show w.heap.size ≤ w2.heap.size by omega) hs6)
              clear hq hb6 hFo
              cases okf with
              | true =>
                have Hn := Lib.hid (show v = some o from Hvl.out)
                go_wp2
                go_ret2
                exact ⟨_, _, _, by rw [Hn.out]; rfl, hbz, by rw [Hn.out]; exact HF6.out⟩
              | false =>
                have Hn := Lib.hid (show v = none from Hvl.out)
                go_wp2
                go_ret2
                exact ⟨none, 0, 0, by rw [Hn.out]; rfl, hbz, by rw [Hn.out]; exact Fresh.nil _ _ _ _ _⟩
end Go.Proofs.YtmickenajhppoaaGreatDoor
