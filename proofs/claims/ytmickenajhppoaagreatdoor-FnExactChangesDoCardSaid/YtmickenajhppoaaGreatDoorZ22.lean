/- Several of my texts in one: Path3, Path4. -/
import Derived.Test.YtmickenajhppoaaGreatDoorZ21
import Derived.Test.YtmickenajhppoaaGreatDoorZ02
/- Walks: the reference's l1Cut and l4Path. -/
namespace Go.Proofs.YtmickenajhppoaaGreatDoor
open Go.RowKit

/-- Where the loop of l1Cut stands. -/
structure CutAt (c : UInt8) (most : Nat) (s : Str) (k f : Nat) (done : List Str) : Prop where
  fk : f ≤ k
  ks : k ≤ s.length
  few : done.length ≤ most
  eq : cutN c most s = done ++ cutN c (most - done.length) (s.drop f)
  free : c ∉ (s.drop f).take (k - f)
theorem CutAt.start (c : UInt8) (most : Nat) (s : Str) : CutAt c most s 0 0 [] := ⟨Nat.le_refl _, Nat.zero_le _, Nat.zero_le _, by simp, by simp⟩
theorem take_next {s : Str} {k f : Nat} {b : UInt8} (hf : f ≤ k) (hb : s[k]? = some b) : (s.drop f).take (k + 1 - f) = (s.drop f).take (k - f) ++ [b] := by
  rw [show k + 1 - f = (k - f) + 1 by omega, List.take_add_one, List.getElem?_drop, show f + (k - f) = k by omega, hb]; rfl
theorem CutAt.skip {c : UInt8} {most : Nat} {s : Str} {k f : Nat} {done : List Str} {b : UInt8} (h : CutAt c most s k f done) (hb : s[k]? = some b) (hne : b ≠ c) : CutAt c most s (k + 1) f done :=
  ⟨by have := h.fk; omega, (List.getElem?_eq_some_iff.1 hb).1, h.few, h.eq, by rw [take_next h.fk hb]; simp; exact ⟨by have := h.free; simpa using this, Ne.symm hne⟩⟩
theorem CutAt.hit {c : UInt8} {most : Nat} {s : Str} {k f : Nat} {done : List Str} (h : CutAt c most s k f done) (hb : s[k]? = some c) (hl : done.length < most) :
    CutAt c most s (k + 1) (k + 1) (done ++ [(s.drop f).take (k - f)]) := by
  have hk := (List.getElem?_eq_some_iff.1 hb).1
  refine ⟨Nat.le_refl _, hk, by simp; omega, ?_, by simp⟩
  have e : s.drop f = (s.drop f).take (k - f) ++ c :: s.drop (k + 1) := by
    have h1 := (List.take_append_drop (k - f) (s.drop f)).symm
    rw [List.drop_drop, show f + (k - f) = k by have := h.fk; omega] at h1
    rw [List.drop_eq_getElem_cons hk] at h1
    rw [List.getElem?_eq_getElem hk] at hb
    rw [Option.some.inj hb] at h1
    exact h1
  rw [h.eq]
  obtain ⟨m, hm⟩ : ∃ m, most - done.length = m + 1 := ⟨most - done.length - 1, by omega⟩
  rw [hm]
  conv => lhs; rw [e]
  rw [cutN_hit h.free]
  simp
  rw [show most - (done.length + 1) = m by omega]
theorem CutAt.done {c : UInt8} {most : Nat} {s : Str} {k f : Nat} {done : List Str} (h : CutAt c most s k f done) (he : k = s.length ∨ done.length = most) : done ++ [s.drop f] = cutN c most s := by
  rw [h.eq]
  rcases he with he | he
  · have hf := h.free
    rw [List.take_of_length_le (by rw [List.length_drop]; omega)] at hf
    rw [cutN_none hf]
  · rw [he, Nat.sub_self]; rfl
theorem CutAt.fle {c : UInt8} {most : Nat} {s : Str} {k f : Nat} {done : List Str} (h : CutAt c most s k f done) : f ≤ s.length := Nat.le_trans h.fk h.ks

set_option maxHeartbeats 1000000 in
theorem spec_l1Cut_any (s : Str) (c : UInt8) (most : Nat) (w : World) (hs : s.length ≤ 1073741824) (hmost : most ≤ 1048576) :
    Calls Tryz.prog 65 #[.string ⟨s.toArray⟩, .int .u8 c.toNat, .int .i64 most] w fun e w' => ∃ A' n' c', e = .returned (.slice A' n' c') ∧ Below w.heap.size w w' ∧ Fresh w' w.heap.size w'.heap.size (encText (cutN c most s)) (.slice A' n' c') := by
  obtain ⟨i, hi0, hi1, hi2, hi3⟩ := info_parts Tryz.infoStr
  go_enter Tryz.func65, Tryz.ntmps65
  go_wp2
  go_loopw [7, 8, 9] (fun t f i wr => ∃ (k fr : Nat) (done : List Str) (A : Option Addr) (cc : Nat), t = .slice A done.length cc ∧ i = .int .i64 k ∧ f = .int .i64 fr ∧ CutAt c most s k fr done ∧ wr.ownsRow w.heap.size 9 1 t done.length (done.map fun s => .string ⟨s.toArray⟩) ∧ Below w.heap.size w wr) (fun _ _ i _ => s.length - (intOf i).toNat)
  case atStart => exact ⟨0, 0, [], _, _, rfl, rfl, rfl, CutAt.start c most s, World.ownsRow_made w #[] 0 (Nat.le_refl _) (Nat.zero_le _) rfl, (Below.refl _ _).alloc (Nat.le_refl _) _⟩
  case round =>
    obtain ⟨k, fr, done, A, cc, rfl, rfl, rfl, hC, hown, hb⟩ := hrel
    have hks := hC.ks
    have hfk := hC.fk
    have hfew := hC.few
    have hsz := hb.size
    by_cases hgo : k < s.length ∧ done.length < most
    · obtain ⟨hkn, hdm⟩ := hgo
      have hkn' : (k : Int) < (s.length : Int) := by omega
      have hdm' : (done.length : Int) < (most : Int) := by omega
      obtain ⟨b, hbk⟩ : ∃ b, s[k]? = some b := ⟨_, List.getElem?_eq_getElem hkn⟩
      have hbb := byte_at hbk (by rw [size_mk]; exact hkn)
      have HC := Lib.hid hC
      have Hbk := Lib.hid hbk
      clear hC hbk
      by_cases he : b = c
      · subst he
        obtain ⟨hc1, hc2⟩ := Tryz.cutStr s fr k hfk hks
        obtain ⟨x, hx⟩ : ∃ x, x = (s.drop fr).take (k - fr) := ⟨_, rfl⟩
        rw [← hx] at hc1 hc2
        have Hx := Lib.hid hx
        clear hx
        go_wp2_with (at_builtin; refine wpList_append_src _ rfl (.tmp 28) (.tmp 33) _ rfl w.heap.size 9 i _ 1 16 Tryz.underlying38 hi0 hi1 hi2 hi3 rfl (by omega) _ done.length _ rfl (hown.alloc _) _ 1 1 [.string ⟨x.toArray⟩] rfl (Src.lit wr 9 [.string ⟨x.toArray⟩] 1 1 rfl) ?e2 ?e3 ?e4 ?e5 ?_)
        case e2 => first | rfl | (intro u hu; simp at hu; subst hu; rfl)
        case e3 => unfold maxLen; omega
        case e4 => omega
        case e5 => first | omega | (simp; omega)
        intro A' c' w3 hown3 hg hat
        have hrow := fun g hg => (hown.lt g hg).1
        have hb3 : Below w.heap.size w w3 := (hb.alloc hsz _).grown hg (by simp; omega) hrow
        go_wp2
        go_roundw
        case rel => exact ⟨k + 1, k + 1, done ++ [x], A', c', by simp, by go_num, by go_num, Hx.out ▸ HC.out.hit Hbk.out hdm, by simpa using hown3, hb3⟩
        case measure => simp [intOf]; omega
      · have hne : ((b.toNat : Int) == (c.toNat : Int)) = false := by
          simp
          intro e
          exact he (UInt8.toNat_inj.1 (by omega))
        have He := Lib.hid he
        clear he
        go_wp2
        go_roundw
        case rel => exact ⟨k + 1, fr, done, A, cc, rfl, by go_num, rfl, HC.out.skip Hbk.out He.out, hown, hb⟩
        case measure => simp [intOf]; omega
    · obtain ⟨hc1, hc2⟩ := Tryz.cutStrFrom s fr hC.fle
      obtain ⟨x, hx⟩ : ∃ x, x = s.drop fr := ⟨_, rfl⟩
      rw [← hx] at hc1 hc2
      have hd := hC.done (by omega)
      rw [← hx] at hd
      have Hd := Lib.hid hd
      clear hx hd hC
      by_cases hkn : k < s.length
      · have hkn' : (k : Int) < (s.length : Int) := by omega
        have hdm : ¬ (done.length : Int) < (most : Int) := by omega
        clear hgo
        go_wp2_with (at_builtin; refine wpList_append_src _ rfl (.tmp 37) (.tmp 41) _ rfl w.heap.size 9 i _ 1 16 Tryz.underlying38 hi0 hi1 hi2 hi3 rfl (by omega) _ done.length _ rfl (hown.alloc _) _ 1 1 [.string ⟨x.toArray⟩] rfl (Src.lit wr 9 [.string ⟨x.toArray⟩] 1 1 rfl) ?f2 ?f3 ?f4 ?f5 ?_)
        case f2 => first | rfl | (intro u hu; simp at hu; subst hu; rfl)
        case f3 => unfold maxLen; omega
        case f4 => omega
        case f5 => first | omega | (simp; omega)
        intro A' c' w3 hown3 hg hat
        have hrow := fun g hg => (hown.lt g hg).1
        have hb3 : Below w.heap.size w w3 := (hb.alloc hsz _).grown hg (by simp; omega) hrow
        go_wp2
        go_ret
        exact ⟨_, _, _, rfl, hb3, Hd.out ▸ Fresh.of_row (by simpa using hown3) (owns_strs _ _)⟩
      · have hkn' : ¬ (k : Int) < (s.length : Int) := by omega
        clear hgo
        go_wp2_with (at_builtin; refine wpList_append_src _ rfl (.tmp 37) (.tmp 41) _ rfl w.heap.size 9 i _ 1 16 Tryz.underlying38 hi0 hi1 hi2 hi3 rfl (by omega) _ done.length _ rfl (hown.alloc _) _ 1 1 [.string ⟨x.toArray⟩] rfl (Src.lit wr 9 [.string ⟨x.toArray⟩] 1 1 rfl) ?g2 ?g3 ?g4 ?g5 ?_)
        case g2 => first | rfl | (intro u hu; simp at hu; subst hu; rfl)
        case g3 => unfold maxLen; omega
        case g4 => omega
        case g5 => first | omega | (simp; omega)
        intro A' c' w3 hown3 hg hat
        have hrow := fun g hg => (hown.lt g hg).1
        have hb3 : Below w.heap.size w w3 := (hb.alloc hsz _).grown hg (by simp; omega) hrow
        go_wp2
        go_ret
        exact ⟨_, _, _, rfl, hb3, Hd.out ▸ Fresh.of_row (by simpa using hown3) (owns_strs _ _)⟩

set_option maxHeartbeats 400000 in
theorem spec_l4Path_any (s : Str) (w : World) (hs : s.length ≤ 1073741824) :
    Calls Tryz.prog 40 #[.string ⟨s.toArray⟩] w fun e w' => e = .returned (.bool (pathOk s)) ∧ Below w.heap.size w w' := by
  have hsm := cutN_small 47 3 s
  have hle := cutN_len_le 47 3 s
  go_enter Tryz.func40, Tryz.ntmps40
  go_wp2_with fail
  refine Calls.mono (spec_l1Cut_any s 47 3 w hs (by omega)) ?_
  rintro e w1 ⟨A1, n1, c1, rfl, hb, hf⟩
  have hr := hf.rep
  obtain ⟨hc, hm⟩ := Text.cap hr
  obtain ⟨ys, hys⟩ : ∃ ys, ys = cutN 47 3 s := ⟨_, rfl⟩
  have hpo : pathOk s = (decide (ys.length ≤ 3) && ys.all nameOk) := by rw [hys]; rfl
  rw [← hys] at hr hsm hle
  clear hf hys
  obtain rfl := Text.n hr
  have Hpo := Lib.hid hpo
  clear hpo
  go_wp2
  go_loop [4] (fun i => ∃ k : Nat, k ≤ ys.length ∧ i = .int .i64 k ∧ Hid ((ys.take k).all nameOk = true)) (fun i => ys.length - (intOf i).toNat)
  case atStart => exact ⟨0, Nat.zero_le _, rfl, Lib.hid (by simp)⟩
  case round =>
    obtain ⟨k, hk, rfl, ht⟩ := hrel
    by_cases hkn : k < ys.length
    · have hkn' : (k : Int) < (ys.length : Int) := by omega
      obtain ⟨b1, o1, x, rfl, _, _, hx, hcell⟩ := Text.at hr hkn
      have hxs : x.length ≤ 9223372036854775807 := by have := hsm x (List.mem_of_getElem? hx); omega
      have Hx := Lib.hid hx
      clear hx
      cases hn : nameOk x
      · go_wp2_with (go_at_call 66; refine (spec_l4Name_any _ _ hxs).mono ?_; rintro e w' ⟨rfl, rfl⟩)
        go_ret
        exact ⟨ret_bool (by rw [Hpo.out, all_false Hx.out hn]; simp), hb⟩
      · go_wp2_with (go_at_call 66; refine (spec_l4Name_any _ _ hxs).mono ?_; rintro e w' ⟨rfl, rfl⟩)
        go_round
        case rel => exact ⟨k + 1, by omega, by go_num, Lib.hid (all_take_succ Hx.out ht.out hn)⟩
        case measure => simp [intOf]; omega
    · have ht := ht.out
      rw [List.take_of_length_le (by omega)] at ht
      have hv : pathOk s = decide ((ys.length : Int) ≤ 3) := by rw [Hpo.out, ht]; simp; omega
      have Hv := Lib.hid hv
      have Ht := Lib.hid ht
      clear ht hv
      by_cases h3 : (ys.length : Int) ≤ 3
      all_goals
        go_wp2
        go_ret
        exact ⟨ret_bool (by rw [Hv.out]; simp; omega), hb⟩

end Go.Proofs.YtmickenajhppoaaGreatDoor

/- Walks: is a path below another one: strings.HasPrefix, the program's PathIn, the reference's l4In, PathIn. -/
namespace Go.Proofs.YtmickenajhppoaaGreatDoor
open Go.RowKit

set_option maxHeartbeats 400000 in
theorem stringslite_HasPrefix_any (s p : Str) (w : World) (_hs : s.length ≤ 9223372036854775807) (_hp : p.length ≤ 9223372036854775807) :
    Calls Tryz.prog 83 #[.string ⟨s.toArray⟩, .string ⟨p.toArray⟩] w fun e w' => e = .returned (.bool (p.isPrefixOf s)) ∧ w = w' := by
  by_cases hl : p.length ≤ s.length
  · have hl' : (p.length : Int) ≤ (s.length : Int) := by omega
    obtain ⟨hc1, hc2⟩ := Tryz.cutStrTo s p.length hl
    obtain ⟨x, hx⟩ : ∃ x, x = s.take p.length := ⟨_, rfl⟩
    have hv : p.isPrefixOf s = decide (x = p) := by
      rw [hx, Bool.eq_iff_iff, List.isPrefixOf_iff_prefix, List.prefix_iff_eq_take, decide_eq_true_eq]
      exact eq_comm
    rw [← hx] at hc1 hc2
    have Hv := Lib.hid hv
    clear hx hv hl
    by_cases he : x = p
    · have hb : (x == p) = true := by simp [he]
      have He := Lib.hid he
      clear he
      go_enter Tryz.func83, Tryz.ntmps83
      go_wp2
      go_ret
      exact ⟨ret_bool (by rw [Hv.out]; simp [He.out]), rfl⟩
    · have hb : (x == p) = false := by simp [he]
      go_enter Tryz.func83, Tryz.ntmps83
      go_wp2
      go_ret
      exact ⟨ret_bool (by rw [Hv.out]; simp [he]), rfl⟩
  · have hl' : ¬ (p.length : Int) ≤ (s.length : Int) := by omega
    have hv : p.isPrefixOf s = false := by
      rw [Bool.eq_false_iff, ne_eq, List.isPrefixOf_iff_prefix]
      intro h
      exact hl h.length_le
    have Hv := Lib.hid hv
    clear hv
    go_enter Tryz.func83, Tryz.ntmps83
    go_wp2
    go_ret
    exact ⟨ret_bool Hv.out.symm, rfl⟩

theorem strings_HasPrefix_any (s p : Str) (w : World) (hs : s.length ≤ 9223372036854775807) (hp : p.length ≤ 9223372036854775807) :
    Calls Tryz.prog 74 #[.string ⟨s.toArray⟩, .string ⟨p.toArray⟩] w fun e w' => e = .returned (.bool (p.isPrefixOf s)) ∧ w = w' := by
  obtain ⟨v, hv⟩ : ∃ v, v = p.isPrefixOf s := ⟨_, rfl⟩
  have hc := stringslite_HasPrefix_any s p w hs hp
  rw [← hv] at hc ⊢
  clear hv
  go_enter Tryz.func74, Tryz.ntmps74
  go_wp2_with (go_at_call 83; refine hc.mono ?_; rintro e w' ⟨rfl, rfl⟩)
  go_ret
  exact ⟨rfl, rfl⟩

set_option maxHeartbeats 400000 in
theorem spec_l4In_any (d p : Str) (w : World) :
    Calls Tryz.prog 42 #[.string ⟨d.toArray⟩, .string ⟨p.toArray⟩] w fun e w' => e = .returned (.bool (below d p)) ∧ w = w' := by
  have hv := below_iff d p
  by_cases hl : d.length < p.length
  · have hl' : (d.length : Int) < (p.length : Int) := by omega
    obtain ⟨hc1, hc2⟩ := Tryz.cutStrTo p d.length (by omega)
    obtain ⟨c, hc⟩ : ∃ c, p[d.length]? = some c := ⟨_, List.getElem?_eq_getElem hl⟩
    have hb := byte_at hc (by rw [size_mk]; exact hl)
    rw [hc] at hv
    obtain ⟨x, hx⟩ : ∃ x, x = p.take d.length := ⟨_, rfl⟩
    rw [← hx] at hc1 hc2 hv
    have Hv := Lib.hid hv
    clear hx hv hc
    by_cases he : x = d
    · have hbe : (x == d) = true := by simp [he]
      have He := Lib.hid he
      clear he
      by_cases h47 : c = 47
      · have h47' : ((c.toNat : Int) == 47) = true := by rw [h47]; rfl
        have H47 := Lib.hid h47
        clear h47
        go_enter Tryz.func42, Tryz.ntmps42
        go_wp2
        go_ret
        exact ⟨ret_bool (by rw [Hv.out]; simp [He.out, H47.out]; omega), rfl⟩
      · have h47' : ((c.toNat : Int) == 47) = false := by
          simp
          intro e
          exact h47 (UInt8.toNat_inj.1 (by simpa using (by omega : c.toNat = 47)))
        go_enter Tryz.func42, Tryz.ntmps42
        go_wp2
        go_ret
        exact ⟨ret_bool (by rw [Hv.out]; simp [He.out, h47]), rfl⟩
    · have hbe : (x == d) = false := by simp [he]
      go_enter Tryz.func42, Tryz.ntmps42
      go_wp2
      go_ret
      exact ⟨ret_bool (by rw [Hv.out]; simp [he]), rfl⟩
  · have hl' : ¬ (d.length : Int) < (p.length : Int) := by omega
    have Hv := Lib.hid hv
    clear hv
    go_enter Tryz.func42, Tryz.ntmps42
    go_wp2
    go_ret
    exact ⟨ret_bool (by rw [Hv.out]; simp [hl]), rfl⟩


set_option maxHeartbeats 400000 in
theorem impl_PathIn_any (d p : Str) (w : World) (hl1 : d.length ≤ 1073741824) (hl2 : p.length ≤ 1073741824) :
    Calls Tryz.prog 53 #[.string ⟨d.toArray⟩, .string ⟨p.toArray⟩] w fun e w' => e = .returned (.bool (pathIn d p)) ∧ Below w.heap.size w w' := by
  have hv : pathIn d p = (pathOk d && pathOk p && below d p) := rfl
  obtain ⟨v, ev⟩ : ∃ v, v = pathIn d p := ⟨_, rfl⟩
  rw [← ev] at hv ⊢
  clear ev
  cases h1 : pathOk d
  · rw [h1] at hv
    have Hv := Lib.hid hv
    clear hv
    go_enter Tryz.func53, Tryz.ntmps53
    go_wp2_with (go_at_call 52; refine (impl_PathOk_any _ _ (by omega)).mono ?_; rintro e w' ⟨rfl, hb⟩)
    go_ret
    exact ⟨ret_bool (by rw [Hv.out]; rfl), hb⟩
  · cases h2 : pathOk p
    · rw [h1, h2] at hv
      have Hv := Lib.hid hv
      clear hv
      go_enter Tryz.func53, Tryz.ntmps53
      go_wp2_with fail
      refine Calls.mono (impl_PathOk_any _ _ hl1) ?_
      rintro e w1 ⟨rfl, hb1⟩
      go_wp2_with fail
      refine Calls.mono (impl_PathOk_any _ _ hl2) ?_
      rintro e w2 ⟨rfl, hb2⟩
      go_wp2
      go_ret
      exact ⟨ret_bool (by rw [Hv.out]; rfl), hb1.trans (hb2.mono hb1.size)⟩
    · rw [h1, h2] at hv
      obtain ⟨u, eu⟩ : ∃ u, u = below d p := ⟨_, rfl⟩
      have hc : ∀ w, Calls Tryz.prog 74 #[.string ⟨p.toArray⟩, .string ⟨(d ++ [47]).toArray⟩] w fun e w' => e = .returned (.bool u) ∧ w = w' := fun w => by
        rw [eu]
        exact strings_HasPrefix_any p (d ++ [47]) w (by omega) (by simp; omega)
      rw [← eu] at hv
      have Hv := Lib.hid hv
      clear hv eu
      have happ : (⟨d.toArray⟩ : ByteArray) ++ ⟨#[47]⟩ = ⟨(d ++ [47]).toArray⟩ := bytes_app d [47]
      go_enter Tryz.func53, Tryz.ntmps53
      go_wp2_with fail
      refine Calls.mono (impl_PathOk_any _ _ hl1) ?_
      rintro e w1 ⟨rfl, hb1⟩
      go_wp2_with fail
      refine Calls.mono (impl_PathOk_any _ _ hl2) ?_
      rintro e w2 ⟨rfl, hb2⟩
      go_wp2_with fail
      refine Calls.mono (hc _) ?_
      rintro e w' ⟨rfl, rfl⟩
      go_wp2
      go_ret
      exact ⟨ret_bool (by rw [Hv.out]; simp), hb1.trans (hb2.mono hb1.size)⟩
end Go.Proofs.YtmickenajhppoaaGreatDoor
