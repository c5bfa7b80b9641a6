/- Walks: MergeShow: the program's and the reference's. -/
import Derived.Test.YtfigfpoklppkgaaMergeFn
import Derived.Test.YtfigfpoklppkgaaShowReg
import Derived.Deep.RegionHeld3
import Derived.Deep.DeepCutAuto
namespace Go.Proofs.Ytfigfpoklppkgaa
open Go.RowKit

def mark1 : Str := [60, 60, 60]
def mark2 : Str := [61, 61, 61]
def mark3 : Str := [62, 62, 62]
def showOf (p : PPart) : List Str := if p.clash then [mark1] ++ p.one ++ [mark2] ++ p.two ++ [mark3] else p.lines
def mergeShow (xs ys zs : List Str) : List Str := (mergeParts xs ys zs).flatMap showOf
theorem mergeParts_few (xs ys zs : List Str) : fewParts 11 (mergeParts xs ys zs) := by
  unfold mergeParts
  split
  · rename_i h
    obtain ⟨l1, l2, l3⟩ := mergeOk_len h
    exact mergeOf_few l1 l2 l3
  · exact ⟨by simp, by simp⟩
theorem showOf_len {p : PPart} {m : Nat} (hm : 35 ≤ m) (h : p.lines.length ≤ m ∧ p.old.length ≤ 16 ∧ p.one.length ≤ 16 ∧ p.two.length ≤ 16) : (showOf p).length ≤ m := by
  unfold showOf
  split
  · simp; omega
  · omega
theorem show_take {ps : List PPart} {m : Nat} (hm : 35 ≤ m) (h : ∀ p ∈ ps, p.lines.length ≤ m ∧ p.old.length ≤ 16 ∧ p.one.length ≤ 16 ∧ p.two.length ≤ 16) : ((ps.flatMap showOf).length ≤ ps.length * m) := by
  induction ps with
  | nil => simp
  | cons p ps ih =>
    have h1 := showOf_len hm (h p (by simp))
    have h2 := ih (fun q hq => h q (by simp [hq]))
    simp only [List.flatMap_cons, List.length_append, List.length_cons, Nat.add_mul, Nat.one_mul]
    omega
theorem show_next {ps : List PPart} {k : Nat} {p : PPart} (h : ps[k]? = some p) : (ps.take (k + 1)).flatMap showOf = (ps.take k).flatMap showOf ++ showOf p := by
  rw [List.take_add_one, h, List.flatMap_append]
  simp
theorem bnd_MergeShow (xs ys zs : List Str) : (mergeShow xs ys zs).length ≤ 7744 := by
  have hf := mergeParts_few xs ys zs
  have h := show_take (m := 352) (by omega) (fun p hp => by have := hf.2 p hp; omega)
  have : (mergeParts xs ys zs).length * 352 ≤ 22 * 352 := Nat.mul_le_mul (by have := hf.1; omega) (Nat.le_refl _)
  unfold mergeShow
  omega


theorem lk_new (w : World) (o : Obj) (k : Nat) (h : k = w.heap.size) : (w.alloc o).heap[k]? = some o := by subst h; show (w.heap.push o)[w.heap.size]? = some o; simp
theorem lk_old {w : World} {o : Obj} (o' : Obj) {k : Nat} (h : w.heap[k]? = some o) : (w.alloc o').heap[k]? = some o := (Below.heap_alloc w o' k (Array.getElem?_eq_some_iff.1 h).1).trans h
theorem lk_drew {w : World} {o : Obj} {k : Nat} (h : w.heap[k]? = some o) : w.drew.heap[k]? = some o := h
theorem lk_kept {w w' : World} {row : Option Nat} (h : w.grownBy w' row) : ∀ (k : Nat) (o : Obj), w.heap[k]? = some o → some k ≠ row → w'.heap[k]? = some o := fun k _ h1 h2 =>
  (h.block k (Array.getElem?_eq_some_iff.1 h1).1 h2).trans h1
theorem src_blk {w : World} {g t : Nat} {fr : Nat × Nat} {u : Value} (h : w.heap[g]? = some (.cells #[u] t fr)) : Src w 1 (some ⟨g, 0, none⟩) 1 [u] := ⟨rfl, fun _ => ⟨g, 0, rfl, fun j x hj => by
  simp only [World.cell?, Nat.zero_add]
  rw [h]
  simpa using hj⟩⟩
theorem grown_facts {W w' : World} {row : Option Nat} {v' : Value} (hg : W.grownBy w' row) (hat : v'.ownBlock = row ∨ v'.ownBlock = some W.heap.size) (hlt : ∀ g, v'.ownBlock = some g → g < w'.heap.size) :
    ∃ z, z = W.heap.size ∧ z ≤ w'.heap.size ∧ ∀ g, v'.ownBlock = some g → row = some g ∨ (g = z ∧ z < w'.heap.size) := ⟨_, rfl, hg.size, fun g h => by
  rcases hat with e | e
  · exact .inl (e ▸ h)
  · right
    have := hlt g h
    rw [h] at e
    have := Option.some.inj e
    omega⟩
/-- Two cells of a block that nothing has written. -/
theorem same_cells {w W : World} {H i j : Nat} {u v : Value} (h : Same H (H + 1) w W) (h1 : w.cell? ⟨H, i, none⟩ = some u) (h2 : w.cell? ⟨H, j, none⟩ = some v) : W.cell? ⟨H, i, none⟩ = some u ∧ W.cell? ⟨H, j, none⟩ = some v :=
  ⟨(World.cell?_of_block (h H (Nat.le_refl _) (Nat.lt_succ_self _))).trans h1, (World.cell?_of_block (h H (Nat.le_refl _) (Nat.lt_succ_self _))).trans h2⟩
theorem same_alloc {w W : World} {H : Nat} (h : Same H (H + 1) w W) (hl : H < W.heap.size) (o : Obj) : Same H (H + 1) w (W.alloc o) := fun k a b => (Below.heap_alloc W o k (by omega)).trans (h k a b)
theorem same_drew {w W : World} {H : Nat} (h : Same H (H + 1) w W) : Same H (H + 1) w W.drew := h
theorem same_grown {w W w' : World} {H : Nat} {row : Option Nat} (h : Same H (H + 1) w W) (hl : H < W.heap.size) (hg : W.grownBy w' row) (hr : ∀ g, row = some g → g ≠ H) : Same H (H + 1) w w' := fun k a b =>
  (hg.block k (by omega) (fun e => hr k e.symm (by omega))).trans (h k a b)

set_option maxRecDepth 100000 in
set_option maxHeartbeats 100000000 in
theorem impl_MergeShow_any (A1 A2 A3 : Option Addr) (n1 c1 n2 c2 n3 c3 : Nat) (xs ys zs : List Str) (w : World) (lo hi lo' hi' lo'' hi'' : Nat) (h1 : Rep w lo hi (encText xs) (.slice A1 n1 c1)) (h2 : Rep w lo' hi' (encText ys) (.slice A2 n2 c2)) (h3 : Rep w lo'' hi'' (encText zs) (.slice A3 n3 c3))
    (hh1 : hi ≤ w.heap.size) (hh2 : hi' ≤ w.heap.size) (hh3 : hi'' ≤ w.heap.size) :
    Calls Try.prog 7 #[.slice A1 n1 c1, .slice A2 n2 c2, .slice A3 n3 c3] w fun e w' => ∃ A n c, e = .returned (.slice A n c) ∧ Below w.heap.size w w' ∧ Fresh w' w.heap.size w'.heap.size (encText (mergeShow xs ys zs)) (.slice A n c) := by
  have hfew := mergeParts_few xs ys zs
  obtain ⟨is, si0, si1, si2, si3⟩ := info_parts Try.infoStr
  go_enter Try.func7, Try.ntmps7
  go_wp2_with fail
  refine (impl_MergeOf_any _ _ _ _ _ _ _ _ _ xs ys zs w _ _ _ _ _ _ h1 h2 h3 hh1 hh2 hh3).mono ?_
  rintro e w1 ⟨A, n, c, rfl, hb1, hf1⟩
  have hres : mergeShow xs ys zs = (mergeParts xs ys zs).flatMap showOf := rfl
  obtain ⟨ps, hps⟩ : ∃ ps, ps = mergeParts xs ys zs := ⟨_, rfl⟩
  rw [← hps] at hf1 hres hfew
  have Hres := Lib.hid hres
  have hR := hf1.rep
  have hnp := Parts.n hR
  obtain ⟨hc, hm⟩ := Parts.cap hR
  subst hnp
  have hs1 := hb1.size
  clear hps hf1 hres
  go_wp2
  go_loopw [7, 15] (fun t i wr => ∃ (k : Nat) (A' : Option Addr) (n' c' : Nat), k ≤ ps.length ∧ i = .int .i64 k ∧ t = .slice A' n' c' ∧ n' = ((ps.take k).flatMap showOf).length ∧
      wr.ownsRow w1.heap.size 9 1 (.slice A' n' c') n' (((ps.take k).flatMap showOf).map fun s => .string ⟨s.toArray⟩) ∧ Below w1.heap.size w1 wr) (fun _ i _ => ps.length - (intOf i).toNat)
  case atStart => exact ⟨0, none, 0, 0, Nat.zero_le _, rfl, rfl, rfl, World.ownsRow_nil _ _ _ _, Below.refl _ _⟩
  case round =>
    obtain ⟨k, A', n', c', hk, rfl, rfl, hn', hown, hb⟩ := hrel
    have hsb := hb.size
    by_cases hkn : k < ps.length
    · have hkn' : (k : Int) < (ps.length : Int) := by omega
      obtain ⟨b1, o1, p, rfl, _, _, hp, B1, m1, e1, B2, m2, e2, B3, m3, e3, B4, m4, e4, d0, d1, r1, d2, r2, d3, r3, d4, r4⟩ := Parts.at (hR.keep hb (Nat.le_refl _)) hkn
      have hnx := show_next hp
      have hpf := hfew.2 p (List.mem_of_getElem? hp)
      have hle := show_take (m := 352) (ps := ps.take k) (by omega) (fun q hq => by have := hfew.2 q (List.mem_of_mem_take hq); omega)
      have hle2 : (ps.take k).length * 352 ≤ 22 * 352 := Nat.mul_le_mul (by have := hfew.1; simp; omega) (Nat.le_refl _)
      have hl1 := Text.n r1
      have hl2 := Text.n r2
      have hl3 := Text.n r3
      have hl4 := Text.n r4
      subst hl1 hl2 hl3 hl4
      obtain ⟨done, hdone⟩ : ∃ done, done = (ps.take k).flatMap showOf := ⟨_, rfl⟩
      rw [← hdone] at hn' hown hnx hle
      have hdl : done.length ≤ 7744 := by omega
      subst hn'
      clear hp hdone hle hle2
      cases hcl : p.clash
      · rw [hcl] at d0
        have hso : showOf p = p.lines := by unfold showOf; rw [hcl]; rfl
        rw [hso] at hnx
        have Hnx := Lib.hid hnx
        have hS := Text.src (r1.keep ((Below.refl wr.heap.size wr).alloc (Nat.le_refl _) (.cells #[.bool false, .slice B1 p.lines.length e1, .slice B2 p.old.length e2, .slice B3 p.one.length e3, .slice B4 p.two.length e4] 31)) hsb)
        clear hnx hso
        go_wp2_with (at_builtin; refine wpList_append_src _ rfl (.tmp 34) (.tmp 36) _ rfl w1.heap.size 9 is _ 1 16 Try.underlying22 si0 si1 si2 si3 rfl (by omega) _ done.length _ rfl (hown.alloc _) _ p.lines.length e1 _ rfl hS ?e2 ?e3 ?e4 ?e5 ?_)
        case e2 => exact texts_one _
        case e3 => unfold maxLen; omega
        case e4 => omega
        case e5 => first | omega | (simp; omega)
        intro A7 c7 w7 hown7 hg7 hat7
        have hb7 : Below w1.heap.size w1 w7 := (hb.alloc hsb _).grown hg7 (by simp; omega) (fun g hg => (hown.lt g hg).1)
        clear hat7 hg7 hS
        go_wp2
        go_roundw
        case rel => exact ⟨k + 1, A7, _, c7, by omega, by go_num, rfl, by rw [Hnx.out]; simp, by rw [Hnx.out]; simpa using hown7, hb7⟩
        case measure => simp [intOf]; omega
      · rw [hcl] at d0
        have hso : showOf p = [mark1] ++ p.one ++ [mark2] ++ p.two ++ [mark3] := by unfold showOf; rw [hcl]; rfl
        rw [hso] at hnx
        have Hnx := Lib.hid hnx
        have hrne : ∀ g, (Value.slice A' done.length c').ownBlock = some g → g < wr.heap.size := fun g hg => (hown.lt g hg).2
        clear hnx hso
        go_upto_region 6 with fail
        refine name_world ?_
        intro wp hwp
        have hbp : Below w1.heap.size w1 wp := by rw [hwp]; exact hb.alloc hsb _
        have hzp : wr.heap.size < wp.heap.size := by rw [hwp]; simp
        have q3 : wp.cell? ⟨wr.heap.size, 3, none⟩ = some (.slice B3 p.one.length e3) := by rw [hwp]; simp [go_sem]
        have q4 : wp.cell? ⟨wr.heap.size, 4, none⟩ = some (.slice B4 p.two.length e4) := by rw [hwp]; simp [go_sem]
        have hown0 : wp.ownsRow w1.heap.size 9 1 (.slice A' done.length c') done.length (done.map fun s => .string ⟨s.toArray⟩) := by rw [hwp]; exact hown.alloc _
        have hr0 : ∀ g, (Value.slice A' done.length c').ownBlock = some g → (g < wp.heap.size ∧ g ≠ wr.heap.size) := fun g hg => by have := hrne g hg; omega
        have hsp := hbp.size
        replace r3 : Rep w1 _ w1.heap.size (encText p.one) (.slice B3 p.one.length e3) := r3.same (fun q _ b => (hb.block q b).symm)
        replace r4 : Rep w1 _ w1.heap.size (encText p.two) (.slice B4 p.two.length e4) := r4.same (fun q _ b => (hb.block q b).symm)
        have Q3 := Lib.hid q3
        have Q4 := Lib.hid q4
        clear hwp hown hb hsb d0 d1 d2 d3 d4 r1 r2 hrne q3 q4
        have hsh : Sh w1 wp wr.heap.size (.slice B3 p.one.length e3) (.slice B4 p.two.length e4) A' done.length c' (done.map fun s => .string ⟨s.toArray⟩) [] := ⟨hbp, Q3.out, Q4.out, hzp, hown0, fun g hg => ⟨(hr0 g hg).2, fun q hq => by cases hq⟩, fun q hq => by cases hq⟩
        refine wp_region_noPanic ?_
        refine show_region w1 wr.heap.size done.length (done.map fun s => .string ⟨s.toArray⟩) B3 B4 e3 e4 p.one p.two _ _ r3 r4 (by omega) (by omega) (by omega) _ _ _ _ _ _ _ _ _ _ _ _ _ _ _ _ _ _ _ _ _ _ _ _ _ _ _ _ _ _ _ _ _ _ _ _ _ _ A' c' wp hsh _ (fun _ _ _ _ _ h => h) ?_ (by kernel_rfl)
        intro _ _ _ _ _ _ _ _ _ _ _ A5 c5 v5 hown5 hb5
        refine NoPanic.normal ?_
        clear hsh hown0 hr0 hbp hzp Q3 Q4 r3 r4
        all_goals
          have hrow5 : v5.ownsRow w1.heap.size 9 1 (.slice A5 (done ++ ([mark1] ++ p.one ++ [mark2] ++ p.two ++ [mark3])).length c5) (done ++ ([mark1] ++ p.one ++ [mark2] ++ p.two ++ [mark3])).length ((done ++ ([mark1] ++ p.one ++ [mark2] ++ p.two ++ [mark3])).map fun s => .string ⟨s.toArray⟩) := by
            have e1 : (done ++ ([mark1] ++ p.one ++ [mark2] ++ p.two ++ [mark3])).length = done.length + 1 + p.one.length + 1 + p.two.length + 1 := by simp; omega
            rw [e1]
            have := hown5
            simpa [mark1, mark2, mark3] using this
          have Hrow5 := Lib.hid hrow5
          have e1 : done.length + 1 + p.one.length + 1 + p.two.length + 1 = (done ++ ([mark1] ++ p.one ++ [mark2] ++ p.two ++ [mark3])).length := by simp; omega
          have E1 := Lib.hid e1
          clear hrow5 e1
          go_wp2
          go_roundw
          case rel => exact ⟨k + 1, A5, _, c5, by omega, by go_num, rfl, by rw [Hnx.out]; exact E1.out, by rw [Hnx.out]; rw [E1.out]; exact Hrow5.out, hb5⟩
          case measure => simp [intOf]; omega
    · obtain rfl : k = ps.length := by omega
      rw [List.take_length] at hn' hown
      subst hn'
      have hf := (Fresh.of_row hown (owns_strs _ _)).mono (lo' := w.heap.size) hs1 (Nat.le_refl _)
      have Hf := Lib.hid hf
      clear hf hown
      go_wp2
      go_ret
      exact ⟨_, _, _, rfl, hb1.trans (hb.mono hs1), by rw [Hres.out]; exact Hf.out⟩

set_option maxRecDepth 100000 in
set_option maxHeartbeats 3200000 in
theorem spec_MergeShow_any (A1 A2 A3 : Option Addr) (n1 c1 n2 c2 n3 c3 : Nat) (xs ys zs : List Str) (w : World) (lo hi lo' hi' lo'' hi'' : Nat) (h1 : Rep w lo hi (encText xs) (.slice A1 n1 c1)) (h2 : Rep w lo' hi' (encText ys) (.slice A2 n2 c2)) (h3 : Rep w lo'' hi'' (encText zs) (.slice A3 n3 c3))
    (hh1 : hi ≤ w.heap.size) (hh2 : hi' ≤ w.heap.size) (hh3 : hi'' ≤ w.heap.size) (hs1 : ∀ s ∈ xs, s.length ≤ 9223372036854775807) (hs2 : ∀ s ∈ ys, s.length ≤ 9223372036854775807) (hs3 : ∀ s ∈ zs, s.length ≤ 9223372036854775807) :
    Calls Try.prog 5 #[.slice A1 n1 c1, .slice A2 n2 c2, .slice A3 n3 c3] w fun e w' => ∃ A n c, e = .returned (.slice A n c) ∧ Below w.heap.size w w' ∧ Fresh w' w.heap.size w'.heap.size (encText (mergeShow xs ys zs)) (.slice A n c) := by
  have hfew := mergeParts_few xs ys zs
  obtain ⟨is, si0, si1, si2, si3⟩ := info_parts Try.infoStr
  have hb0 : Below w.heap.size w (w.alloc (.cells #[] 9)) := (Below.refl _ _).alloc (Nat.le_refl _) _
  have hrow0 : (w.alloc (.cells #[] 9)).ownsRow w.heap.size 9 1 (.slice (some ⟨w.heap.size, 0, none⟩) 0 0) 0 [] := World.ownsRow_made w #[] 0 (Nat.le_refl _) (Nat.zero_le _) rfl
  go_enter Try.func5, Try.ntmps5
  go_wp2_with fail
  refine (spec_MergeOf_any _ _ _ _ _ _ _ _ _ xs ys zs _ _ _ _ _ _ _ (h1.keep hb0 hh1) (h2.keep hb0 hh2) (h3.keep hb0 hh3) (by simp; omega) (by simp; omega) (by simp; omega) hs1 hs2 hs3).mono ?_
  rintro e w1 ⟨A, n, c, rfl, hb1, hf1⟩
  have hz1 := hb1.size
  simp only [World.size_alloc] at hz1
  have hbw : Below w.heap.size w w1 := hb0.trans (hb1.mono (by simp))
  have hrow := ownsRow_same (w' := w1) hrow0 (fun q hq => hb1.block q (hrow0.lt q (by simpa using hq)).2)
  have hres : mergeShow xs ys zs = (mergeParts xs ys zs).flatMap showOf := rfl
  obtain ⟨ps, hps⟩ : ∃ ps, ps = mergeParts xs ys zs := ⟨_, rfl⟩
  rw [← hps] at hf1 hres hfew
  have Hres := Lib.hid hres
  have hR := hf1.rep
  simp only [World.size_alloc] at hR
  have hnp := Parts.n hR
  obtain ⟨hc, hm⟩ := Parts.cap hR
  subst hnp
  clear hps hf1 hres hb0 hb1 hrow0 h1 h2 h3
  go_wp2
  go_loopw [7, 9] (fun t i wr => ∃ (k : Nat) (A' : Option Addr) (n' c' : Nat), k ≤ ps.length ∧ i = .int .i64 k ∧ t = .slice A' n' c' ∧ n' = ((ps.take k).flatMap showOf).length ∧
      wr.ownsRow w.heap.size 9 1 (.slice A' n' c') n' (((ps.take k).flatMap showOf).map fun s => .string ⟨s.toArray⟩) ∧ Below w.heap.size w wr ∧ Rep wr (w.heap.size + 1) w1.heap.size (encParts ps) (.slice A ps.length c) ∧ w1.heap.size ≤ wr.heap.size ∧
      Hid (∀ g, (Value.slice A' n' c').ownBlock = some g → g < w.heap.size + 1 ∨ w1.heap.size ≤ g)) (fun _ i _ => ps.length - (intOf i).toNat)
  case atStart => exact ⟨0, _, 0, _, Nat.zero_le _, rfl, rfl, rfl, hrow, hbw, hR, Nat.le_refl _, Lib.hid (fun g hg => by simp [Value.ownBlock] at hg; omega)⟩
  case round =>
    clear hrow hR hbw
    obtain ⟨k, A', n', c', hk, rfl, rfl, hn', hown, hb, hR, hw1, hap⟩ := hrel
    have hsb := hb.size
    by_cases hkn : k < ps.length
    · have hkn' : (k : Int) < (ps.length : Int) := by omega
      obtain ⟨b1, o1, p, rfl, hlo, hhi, hp, B1, m1, e1, B2, m2, e2, B3, m3, e3, B4, m4, e4, d0, d1, r1, d2, r2, d3, r3, d4, r4⟩ := Parts.at hR hkn
      have hnx := show_next hp
      have hpf := hfew.2 p (List.mem_of_getElem? hp)
      have hle := show_take (m := 352) (ps := ps.take k) (by omega) (fun q hq => by have := hfew.2 q (List.mem_of_mem_take hq); omega)
      have hle2 : (ps.take k).length * 352 ≤ 22 * 352 := Nat.mul_le_mul (by have := hfew.1; simp; omega) (Nat.le_refl _)
      have hl1 := Text.n r1
      have hl2 := Text.n r2
      have hl3 := Text.n r3
      have hl4 := Text.n r4
      subst hl1 hl2 hl3 hl4
      obtain ⟨done, hdone⟩ : ∃ done, done = (ps.take k).flatMap showOf := ⟨_, rfl⟩
      rw [← hdone] at hn' hown hnx hle
      have hdl : done.length ≤ 7744 := by omega
      subst hn'
      have hwo : w.heap.size ≤ wr.heap.size := hsb
      clear hp hdone hle hle2
      obtain ⟨v0, rfl⟩ : ∃ v0 : World, v0 = wr := ⟨_, rfl⟩
      cases hcl : p.clash
      · rw [hcl] at d0
        have hso : showOf p = p.lines := by unfold showOf; rw [hcl]; rfl
        rw [hso] at hnx
        have Hnx := Lib.hid hnx
        clear hnx hso
        go_wp2_with (at_builtin; refine wpList_append_src _ rfl (.tmp 27) (.tmp 32) _ rfl w.heap.size 9 is _ 1 16 Try.underlying22 si0 si1 si2 si3 rfl (by omega) _ done.length _ rfl hown _ p.lines.length e1 _ rfl (Text.src r1) ?e2 ?e3 ?e4 ?e5 ?_)
        case e2 => exact texts_one _
        case e3 => unfold maxLen; omega
        case e4 => omega
        case e5 => omega
        intro A7 c7 w7 hown7 hg7 hat7
        have hb7 : Below w.heap.size w w7 := hb.grown hg7 (by omega) (fun g hg => (hown.lt g hg).1)
        have hsm : Same (w.heap.size + 1) w1.heap.size v0 w7 := fun q a b => hg7.block q (by omega) (fun e => by have := hap.out q e.symm; omega)
        have hR7 := hR.same hsm
        have hs7 := hg7.size
        have hap7 : ∀ g, (Value.slice A7 (done.length + p.lines.length) c7).ownBlock = some g → g < w.heap.size + 1 ∨ w1.heap.size ≤ g := fun g hg => by
          rcases hat7 with e | e
          · exact hap.out g (e.symm.trans hg)
          · rw [hg] at e; have := Option.some.inj e; omega
        have Hap7 := Lib.hid hap7
        clear hat7 hg7 hap7 hsm
        go_wp2
        go_roundw
        case rel => exact ⟨k + 1, A7, _, c7, by omega, by go_num, rfl, by rw [Hnx.out]; simp, by rw [Hnx.out]; simpa using hown7, hb7, hR7, by omega, Hap7⟩
        case measure => simp [intOf]; omega
      · rw [hcl] at d0
        have hso : showOf p = [mark1] ++ p.one ++ [mark2] ++ p.two ++ [mark3] := by unfold showOf; rw [hcl]; rfl
        rw [hso] at hnx
        have Hnx := Lib.hid hnx
        have hblt : b1 < v0.heap.size := by omega
        clear hnx hso
        have hown0 := hown
        have hap0 := hap
        have hb0 := hb
        have hR0 := hR
        have hzz0 : w1.heap.size ≤ v0.heap.size := hw1
        have D3 := Lib.hid d3
        have D4 := Lib.hid d4
        clear hown hap hb hR r1 r2 d1 d2
        go_wp2_with (at_builtin; refine wpList_append_src _ rfl (.tmp 34) (.tmp 35) _ rfl w.heap.size 9 is _ 1 16 Try.underlying22 si0 si1 si2 si3 rfl (by omega) _ done.length _ rfl (World.ownsRow.alloc hown0 _) _ 1 1 [.string ⟨#[60, 60, 60]⟩] rfl (Src.lit v0 9 [.string ⟨#[60, 60, 60]⟩] 1 1 rfl) ?e2 ?e3 ?e4 ?e5 ?_)
        case e2 => intro u hu; simp at hu; subst hu; rfl
        case e3 => unfold maxLen; omega
        case e4 => omega
        case e5 => first | omega | (simp; omega)
        intro A1 c1 v1 hown1 hg1 hat1
        have hb1 : Below w.heap.size w v1 := (hb0.alloc (by omega) _).grown hg1 (by first | omega | (simp; omega)) (fun g hg => (World.ownsRow.lt hown0 g hg).1)
        have hsa1 : Same (w.heap.size + 1) w1.heap.size v0 v1 := fun q a b => (hg1.block q (by simp; omega) (fun e => by have := hap0.out q e.symm; omega)).trans (Below.heap_alloc v0 _ q (by omega))
        have hsm1 : Same (w.heap.size + 1) w1.heap.size v0 v1 := fun q a b => (hsa1 q a b).trans (rfl)
        have hR1 := hR0.same hsa1
        have hzz1 : w1.heap.size ≤ v1.heap.size := by have := hg1.size; simp at this; omega
        have hap1 : Hid (∀ g, (Value.slice A1 (done.length + 1) c1).ownBlock = some g → g < w.heap.size + 1 ∨ w1.heap.size ≤ g) := Lib.hid (fun g hg => by
          rcases hat1 with e | e
          · exact hap0.out g (e.symm.trans hg)
          · rw [hg] at e; have := Option.some.inj e; (try simp at this); omega)
        clear hat1 hg1 hsa1
        have dd3 : v1.cell? ⟨b1, o1 + k * 5 + 3, none⟩ = some (.slice B3 p.one.length e3) := (World.cell?_of_block (hsm1 b1 hlo hhi)).trans D3.out
        go_wp2_with (at_builtin; refine wpList_append_src _ rfl (.tmp 37) (.tmp 42) _ rfl w.heap.size 9 is _ 1 16 Try.underlying22 si0 si1 si2 si3 rfl (by omega) _ (done.length + 1) _ rfl hown1 B3 p.one.length e3 _ rfl (Text.src (r3.same hsm1)) ?e2 ?e3 ?e4 ?e5 ?_)
        case e2 => exact texts_one _
        case e3 => unfold maxLen; omega
        case e4 => omega
        case e5 => first | omega | (simp; omega)
        intro A2 c2 v2 hown2 hg2 hat2
        have hb2 : Below w.heap.size w v2 := hb1.grown hg2 (by first | omega | (simp; omega)) (fun g hg => (World.ownsRow.lt hown1 g hg).1)
        have hsa2 : Same (w.heap.size + 1) w1.heap.size v1 v2 := fun q a b => hg2.block q (by omega) (fun e => by have := hap1.out q e.symm; omega)
        have hsm2 : Same (w.heap.size + 1) w1.heap.size v0 v2 := fun q a b => (hsa2 q a b).trans (hsm1 q a b)
        have hR2 := hR1.same hsa2
        have hzz2 : w1.heap.size ≤ v2.heap.size := by have := hg2.size; omega
        have hap2 : Hid (∀ g, (Value.slice A2 ((done.length + 1) + p.one.length) c2).ownBlock = some g → g < w.heap.size + 1 ∨ w1.heap.size ≤ g) := Lib.hid (fun g hg => by
          rcases hat2 with e | e
          · exact hap1.out g (e.symm.trans hg)
          · rw [hg] at e; have := Option.some.inj e; (try simp at this); omega)
        clear hat2 hg2 hsa2
        go_wp2_with (at_builtin; refine wpList_append_src _ rfl (.tmp 44) (.tmp 45) _ rfl w.heap.size 9 is _ 1 16 Try.underlying22 si0 si1 si2 si3 rfl (by omega) _ ((done.length + 1) + p.one.length) _ rfl (World.ownsRow.alloc hown2 _) _ 1 1 [.string ⟨#[61, 61, 61]⟩] rfl (Src.lit v2 9 [.string ⟨#[61, 61, 61]⟩] 1 1 rfl) ?e2 ?e3 ?e4 ?e5 ?_)
        case e2 => intro u hu; simp at hu; subst hu; rfl
        case e3 => unfold maxLen; omega
        case e4 => omega
        case e5 => first | omega | (simp; omega)
        intro A3 c3 v3 hown3 hg3 hat3
        have hb3 : Below w.heap.size w v3 := (hb2.alloc (by omega) _).grown hg3 (by first | omega | (simp; omega)) (fun g hg => (World.ownsRow.lt hown2 g hg).1)
        have hsa3 : Same (w.heap.size + 1) w1.heap.size v2 v3 := fun q a b => (hg3.block q (by simp; omega) (fun e => by have := hap2.out q e.symm; omega)).trans (Below.heap_alloc v2 _ q (by omega))
        have hsm3 : Same (w.heap.size + 1) w1.heap.size v0 v3 := fun q a b => (hsa3 q a b).trans (hsm2 q a b)
        have hR3 := hR2.same hsa3
        have hzz3 : w1.heap.size ≤ v3.heap.size := by have := hg3.size; simp at this; omega
        have hap3 : Hid (∀ g, (Value.slice A3 (((done.length + 1) + p.one.length) + 1) c3).ownBlock = some g → g < w.heap.size + 1 ∨ w1.heap.size ≤ g) := Lib.hid (fun g hg => by
          rcases hat3 with e | e
          · exact hap2.out g (e.symm.trans hg)
          · rw [hg] at e; have := Option.some.inj e; (try simp at this); omega)
        clear hat3 hg3 hsa3
        have dd4 : v3.cell? ⟨b1, o1 + k * 5 + 4, none⟩ = some (.slice B4 p.two.length e4) := (World.cell?_of_block (hsm3 b1 hlo hhi)).trans D4.out
        go_wp2_with (at_builtin; refine wpList_append_src _ rfl (.tmp 47) (.tmp 52) _ rfl w.heap.size 9 is _ 1 16 Try.underlying22 si0 si1 si2 si3 rfl (by omega) _ (((done.length + 1) + p.one.length) + 1) _ rfl hown3 B4 p.two.length e4 _ rfl (Text.src (r4.same hsm3)) ?e2 ?e3 ?e4 ?e5 ?_)
        case e2 => exact texts_one _
        case e3 => unfold maxLen; omega
        case e4 => omega
        case e5 => first | omega | (simp; omega)
        intro A4 c4 v4 hown4 hg4 hat4
        have hb4 : Below w.heap.size w v4 := hb3.grown hg4 (by first | omega | (simp; omega)) (fun g hg => (World.ownsRow.lt hown3 g hg).1)
        have hsa4 : Same (w.heap.size + 1) w1.heap.size v3 v4 := fun q a b => hg4.block q (by omega) (fun e => by have := hap3.out q e.symm; omega)
        have hsm4 : Same (w.heap.size + 1) w1.heap.size v0 v4 := fun q a b => (hsa4 q a b).trans (hsm3 q a b)
        have hR4 := hR3.same hsa4
        have hzz4 : w1.heap.size ≤ v4.heap.size := by have := hg4.size; omega
        have hap4 : Hid (∀ g, (Value.slice A4 ((((done.length + 1) + p.one.length) + 1) + p.two.length) c4).ownBlock = some g → g < w.heap.size + 1 ∨ w1.heap.size ≤ g) := Lib.hid (fun g hg => by
          rcases hat4 with e | e
          · exact hap3.out g (e.symm.trans hg)
          · rw [hg] at e; have := Option.some.inj e; (try simp at this); omega)
        clear hat4 hg4 hsa4
        go_wp2_with (at_builtin; refine wpList_append_src _ rfl (.tmp 54) (.tmp 55) _ rfl w.heap.size 9 is _ 1 16 Try.underlying22 si0 si1 si2 si3 rfl (by omega) _ ((((done.length + 1) + p.one.length) + 1) + p.two.length) _ rfl (World.ownsRow.alloc hown4 _) _ 1 1 [.string ⟨#[62, 62, 62]⟩] rfl (Src.lit v4 9 [.string ⟨#[62, 62, 62]⟩] 1 1 rfl) ?e2 ?e3 ?e4 ?e5 ?_)
        case e2 => intro u hu; simp at hu; subst hu; rfl
        case e3 => unfold maxLen; omega
        case e4 => omega
        case e5 => first | omega | (simp; omega)
        intro A5 c5 v5 hown5 hg5 hat5
        have hb5 : Below w.heap.size w v5 := (hb4.alloc (by omega) _).grown hg5 (by first | omega | (simp; omega)) (fun g hg => (World.ownsRow.lt hown4 g hg).1)
        have hsa5 : Same (w.heap.size + 1) w1.heap.size v4 v5 := fun q a b => (hg5.block q (by simp; omega) (fun e => by have := hap4.out q e.symm; omega)).trans (Below.heap_alloc v4 _ q (by omega))
        have hsm5 : Same (w.heap.size + 1) w1.heap.size v0 v5 := fun q a b => (hsa5 q a b).trans (hsm4 q a b)
        have hR5 := hR4.same hsa5
        have hzz5 : w1.heap.size ≤ v5.heap.size := by have := hg5.size; simp at this; omega
        have hap5 : Hid (∀ g, (Value.slice A5 (((((done.length + 1) + p.one.length) + 1) + p.two.length) + 1) c5).ownBlock = some g → g < w.heap.size + 1 ∨ w1.heap.size ≤ g) := Lib.hid (fun g hg => by
          rcases hat5 with e | e
          · exact hap4.out g (e.symm.trans hg)
          · rw [hg] at e; have := Option.some.inj e; (try simp at this); omega)
        clear hat5 hg5 hsa5
        go_wp2
        go_roundw
        case rel => exact ⟨k + 1, A5, _, c5, by omega, by go_num, rfl, by rw [Hnx.out]; simp; omega, by rw [Hnx.out]; have := hown5; simpa [mark1, mark2, mark3] using this, hb5, hR5, by omega, hap5⟩
        case measure => simp [intOf]; omega
    · obtain rfl : k = ps.length := by omega
      rw [List.take_length] at hn' hown
      subst hn'
      have hf := (Fresh.of_row hown (owns_strs _ _)).mono (lo' := w.heap.size) (Nat.le_refl _) (Nat.le_refl _)
      have Hf := Lib.hid hf
      clear hf hown
      go_wp2
      go_ret
      exact ⟨_, _, _, rfl, hb, by rw [Hres.out]; exact Hf.out⟩

end Go.Proofs.Ytfigfpoklppkgaa
