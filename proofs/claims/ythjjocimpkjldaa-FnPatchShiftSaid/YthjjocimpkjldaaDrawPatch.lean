/- Walks: a patch drawn: l30Patch and the draws that use it. -/
import Derived.Test.YthjjocimpkjldaaDiffFn
import Derived.Test.YthjjocimpkjldaaDiffLaw
import Derived.Test.YthjjocimpkjldaaDraw3
namespace Go.Proofs.Ythjjocimpkjldaa
open Go.RowKit

/-- A row of the call's own, read as plain data. -/
theorem Rep.row {w : World} {base e z n lo hi : Nat} {ps : List PV} {v : Value} {us : List Value} (h : w.ownsRow base e z v n us) (hl : us.length = ps.length) (hb : ∀ g, v.ownBlock = some g → lo ≤ g ∧ g < hi) (hs : ∀ j p, ps[j]? = some p → Rep w lo hi p (us.getD j undef)) : Rep w lo hi (.sl e z ps) v := by
  have hlen : ps.length = n * z := by rw [← hl]; exact h.1
  rcases h.2 with ⟨rfl, hn⟩ | ⟨g, cap, cur, rfl, hg, hh, hnc, hcm, hcs, ht⟩
  · subst hn
    exact .sl (fun _ => undef) hlen (Nat.le_refl _) (Nat.zero_le _) (fun _ => rfl) (fun h => absurd h (by omega)) (fun j p hj => by
      have : ps = [] := List.eq_nil_of_length_eq_zero (by simpa using hlen)
      rw [this] at hj; simp at hj)
  · refine .sl (fun j => us.getD j undef) hlen hnc hcm (fun h => by cases h) (fun _ => ⟨g, 0, rfl, (hb g rfl).1, (hb g rfl).2, fun j hj => ?_⟩) hs
    have hju : j < us.length := by omega
    have := h.cells (g := g) rfl j us[j] (List.getElem?_eq_getElem hju)
    simp only [Addr.add_lit] at this
    rw [this]
    simp [hju]
/-- .. one cell of it replaced. -/
theorem Rep.row_set {w : World} {base e z n lo hi i : Nat} {ps : List PV} {v : Value} {us : List Value} {p' : PV} {u' : Value} {G : List Nat} (h : w.ownsRow base e z v n (us.set i u')) (ho : Owns w ps us G) (hG : ∀ k ∈ G, lo ≤ k ∧ k < hi) (hb : ∀ g, v.ownBlock = some g → lo ≤ g ∧ g < hi) (hp : Rep w lo hi p' u') (hi' : i < ps.length) :
    Rep w lo hi (.sl e z (ps.set i p')) v := by
  have hl := Owns.length ho
  refine Rep.row h (by simp [hl]) hb (fun j p hj => ?_)
  by_cases e1 : j = i
  · subst e1
    rw [List.getElem?_set_self hi'] at hj
    have : p = p' := (Option.some.inj hj).symm
    subst this
    rw [List.getD_eq_getElem?_getD, List.getElem?_set_self (by omega)]
    exact hp
  · rw [List.getElem?_set_ne (fun e => e1 e.symm)] at hj
    rw [List.getD_eq_getElem?_getD, List.getElem?_set_ne (fun e => e1 e.symm), ← List.getD_eq_getElem?_getD]
    exact Owns.rep ps us G ho hG j p hj
def smallHunks (d : List PHunk) : Prop := d.length ≤ 60 ∧ ∀ x ∈ d, -1 ≤ x.at_ ∧ x.at_ ≤ 11 ∧ x.less.length ≤ 11 ∧ x.more.length ≤ 10 ∧ (∀ s ∈ x.less, s.length ≤ 20) ∧ ∀ s ∈ x.more, s.length ≤ 20
theorem textOk_small {t : List Str} (h : textOk t = true) : ∀ s ∈ t, s.length ≤ 20 := fun s hs => by
  unfold textOk lineOk at h
  simp only [Bool.and_eq_true, decide_eq_true_eq, List.all_eq_true] at h
  have := (h.2 s hs).1
  omega
theorem small_diff (a b : List Str) : (diffOfOk a b).length ≤ 8 ∧ ∀ x ∈ diffOfOk a b, hunkOk x = true := by
  unfold diffOfOk
  split
  · rename_i h
    simp only [Bool.and_eq_true] at h
    have := diffOf_ok h.1 h.2
    exact ⟨patchOk_len this, hunkOk_of_patchOk this⟩
  · exact ⟨by simp, fun x hx => by cases hx⟩
theorem small_hunk {x : PHunk} (h : hunkOk x = true) : -1 ≤ x.at_ ∧ x.at_ ≤ 10 ∧ x.less.length ≤ 10 ∧ x.more.length ≤ 10 ∧ (∀ s ∈ x.less, s.length ≤ 20) ∧ ∀ s ∈ x.more, s.length ≤ 20 := by
  obtain ⟨h1, h2, h3, h4, h5, h6, _⟩ := hunkOk_facts h
  exact ⟨by omega, h2, h5, h6, textOk_small h3, textOk_small h4⟩
theorem smallHunks_ok {d : List PHunk} (h : smallHunks d) : ∀ x ∈ d, okHunk x := fun x hx => by
  obtain ⟨a, b, _, _, e, f⟩ := h.2 x hx
  exact ⟨⟨by omega, by omega⟩, fun s hs => by have := e s hs; omega, fun s hs => by have := f s hs; omega⟩
theorem small_set {d : List PHunk} {k : Nat} {y : PHunk} (h8 : d.length ≤ 8) (h : ∀ x ∈ d, hunkOk x = true) (hy : -1 ≤ y.at_ ∧ y.at_ ≤ 11 ∧ y.less.length ≤ 11 ∧ y.more.length ≤ 10 ∧ (∀ s ∈ y.less, s.length ≤ 20) ∧ ∀ s ∈ y.more, s.length ≤ 20) : smallHunks (d.set k y) :=
  ⟨by simp; omega, fun z hz => by
    rcases List.mem_or_eq_of_mem_set hz with hz | hz
    · obtain ⟨a, b, c, e, f, g⟩ := small_hunk (h z hz)
      exact ⟨a, by omega, by omega, e, f, g⟩
    · subst hz; exact hy⟩
theorem small_all {d : List PHunk} (h8 : d.length ≤ 8) (h : ∀ x ∈ d, hunkOk x = true) : smallHunks d :=
  ⟨by omega, fun z hz => by
    obtain ⟨a, b, c, e, f, g⟩ := small_hunk (h z hz)
    exact ⟨a, by omega, by omega, e, f, g⟩⟩
theorem small20p {xs : List Str} (h : ∀ s ∈ xs, s.length ≤ 20) : ∀ s ∈ xs, s.length ≤ 9223372036854775807 := fun s hs => by have := h s hs; omega
theorem one_at {xs : List Int} {s a : Int} (h : s ∈ xs) (e : xs = [-1, 0, 11, a]) : s = -1 ∨ s = 0 ∨ s = 11 ∨ s = a := by subst e; simpa using h

set_option maxRecDepth 100000 in
set_option maxHeartbeats 6400000 in
theorem spec_l30Patch_any (b m : Nat) (A : Option Addr) (n c : Nat) (ts : List Str) (w : World) (lo hi : Nat) (h : Rd w b m) (hm : m ≤ 700000) (hr : Rep w lo hi (encText ts) (.slice A n c)) (hbl : b < lo) (hh : hi ≤ w.heap.size) (hts : ∀ s ∈ ts, s.length ≤ 20) (htl : ts.length ≤ 1000) :
    Calls Try.prog 30 #[.pointer (some ⟨b, 0, none⟩), .slice A n c] w fun e w' => ∃ (d : List PHunk) (A' : Option Addr) (n' c' m' : Nat), e = .returned (.slice A' n' c') ∧ Rep w' w.heap.size w'.heap.size (encHunks d) (.slice A' n' c') ∧ smallHunks d ∧ Rolls w.heap.size b w w' ∧ Rd w' b m' ∧ m' ≤ m + 20 := by
  have hlt := h.lt
  obtain ⟨is, si0, si1, si2, si3⟩ := info_parts Try.infoStr
  obtain ⟨ih, gi0, gi1, gi2, gi3⟩ := info_parts Try.infoHunk
  go_enter Try.func30, Try.ntmps30
  go_wp2_with fail
  refine Calls.mono (spec_l30Turn_any b m A n c ts w lo hi h hm hr hh hts htl) ?_
  rintro e w1 ⟨xs, v, m1, rfl, hM1, hl1, hR1, hD1, hm1⟩
  obtain ⟨A1, c1, rfl, hc1, _, _⟩ := hM1.shape
  have hs1 := hR1.size
  have hr1 := hr.same (hR1.same hh (.inl hbl))
  go_wp2_with fail
  refine Calls.mono (spec_DiffOf_any _ _ _ _ _ _ ts xs w1 _ _ _ _ hr1 hM1.fresh.rep (by omega) (Nat.le_refl _) (small20p hts) (small20p hM1.2)) ?_
  rintro e w2 ⟨A2, n2, c2, rfl, hb2, hf2⟩
  have hs2 := hb2.size
  have hD2 := hD1.keep hb2 (by omega)
  have hR2 : Rolls w.heap.size b w w2 := hR1.trans (Rolls.of_below (hb2.mono hs1))
  obtain ⟨hd8, hdk⟩ := small_diff ts xs
  obtain ⟨d, hd⟩ : ∃ d, d = diffOfOk ts xs := ⟨_, rfl⟩
  rw [← hd] at hf2 hd8 hdk
  have hnd := Hunks.n hf2.rep
  obtain ⟨hcc2, hmm2⟩ := Hunks.cap hf2.rep
  subst hnd
  clear hd hr1 hr hM1 hR1 hD1 hb2
  by_cases hd0 : d.length = 0
  · have hd0' : ¬ (0 : Int) < (d.length : Int) := by omega
    have Hd0 := Lib.hid hd0
    clear hd0
    go_wp2
    go_ret
    exact ⟨d, _, _, _, m1, rfl, hf2.rep.mono hs1 (Nat.le_refl _), small_all hd8 hdk, hR2, hD2, by omega⟩
  have hd0' : (0 : Int) < (d.length : Int) := by omega
  obtain ⟨us, G, hown2, ho2, hnd2, hbd2⟩ := hf2.row_of
  clear hf2
  go_wp2_with fail
  refine Calls.mono (spec_pick_any b m1 d.length w2 hD2 (by omega)) ?_
  rintro e w3 ⟨q, rfl, q0, q1, hR3, hD3, hz3⟩
  obtain ⟨k, rfl⟩ := Int.eq_ofNat_of_zero_le q0
  have hk : k < d.length := by omega
  go_wp2_with fail
  refine Calls.mono (spec_pick_any b (m1 + 1) 14 w3 hD3 (by omega)) ?_
  rintro e w4 ⟨q2, rfl, q20, q21, hR4, hD4, hz4⟩
  have hR24 : Rolls w2.heap.size b w2 w4 := hR3.trans (hR4.mono (by omega))
  have hRw4 : Rolls w.heap.size b w w4 := hR2.trans (hR24.mono (by omega))
  have hs4 : w4.heap.size ≤ w2.heap.size ∧ w2.heap.size ≤ w4.heap.size := by omega
  obtain ⟨hs4a, hs4b⟩ := hs4
  have hkeep : ∀ q ∈ (Value.slice A2 d.length c2).ownBlock.toList ++ G, w4.heap[q]? = w2.heap[q]? := fun q hq => by
    have := hbd2 q hq
    exact hR24.block q this.2 (by omega)
  have hown4 := ownsRow_same (w' := w4) hown2 (fun q hq => hkeep q (List.mem_append_left _ hq))
  have ho4 := Owns.same _ _ _ ho2 (w' := w4) (fun q hq => hkeep q (List.mem_append_right _ hq))
  have hbd4 : ∀ q ∈ (Value.slice A2 d.length c2).ownBlock.toList ++ G, w1.heap.size ≤ q ∧ q < w4.heap.size := fun q hq => by have := hbd2 q hq; omega
  have hfr : Fresh w4 w1.heap.size w4.heap.size (encHunks d) (.slice A2 d.length c2) := ⟨_, ⟨_, us, G, ⟨hown4.1, hown4.2.imp id (fun ⟨g, cap, cur, a1, _, a3⟩ => ⟨g, cap, cur, a1, Nat.zero_le _, a3⟩)⟩, rfl, ho4⟩, hnd2, hbd4⟩
  have hkn' : (k : Int) < (d.length : Int) := by omega
  obtain ⟨b1, o1, x, hA, hb1lo, hb1hi, hxk, B1, p1, e1, B2, p2, e2, d0, d1, r1, d2, r2⟩ := Hunks.at hfr.rep hk
  obtain ⟨g, hg⟩ : ∃ g, A2 = some ⟨g, 0, none⟩ := by
    rcases hown4.2 with ⟨e, h0⟩ | ⟨g, cap, cur, e, _⟩
    · omega
    · cases e; exact ⟨g, rfl⟩
  subst hg
  simp only [Option.some.injEq, Addr.mk.injEq, and_true] at hA
  obtain ⟨rfl, rfl⟩ := hA
  simp only [Nat.zero_add] at d0 d1 d2
  have hx := hdk x (List.mem_of_getElem? hxk)
  obtain ⟨x1, x2, x3, x4, x5, x6⟩ := small_hunk hx
  have hl1' := Text.n r1
  have hl2' := Text.n r2
  subst hl1' hl2'
  have hgG : g ∉ G := fun m => (List.nodup_append.1 hnd2).2.2 g (by simp [Value.ownBlock]) g m rfl
  have hkz : k * 3 + 2 < us.length := by
    have := hown4.1
    omega
  have hulen := Owns.length ho4
  have f0 := hown4.frozenAt (k * 3)
  have f1 := hown4.frozenAt (k * 3 + 1)
  have hglt := (hown4.lt g rfl)
  have hwx : IntKind.i64.wrap (x.at_ + 1) = x.at_ + 1 := by rw [IntKind.wrap_i64]; omega
  have hb1w : b < w1.heap.size := by omega
  have hww1 : w.heap.size ≤ w1.heap.size := hs1
  clear hkeep hown2 ho2 hbd2 hR24 hR3 hR4 hR2 hD2 hD3 hz3 hz4
  by_cases hq0 : q2 = 0
  · subst hq0
    have hlit := lit_ints w4 3 [-1, 0, 11, x.at_ + 1] (by simp [maxLen])
    simp only [List.map_cons, List.map_nil, List.length_cons, List.length_nil, Nat.reduceAdd] at hlit
    have hD4a := hD4.alloc (.cells #[.int .i64 (-1), .int .i64 0, .int .i64 11, .int .i64 (x.at_ + 1)] 3)
    have hRa : Rolls w4.heap.size b w4 (w4.alloc (.cells #[.int .i64 (-1), .int .i64 0, .int .i64 11, .int .i64 (x.at_ + 1)] 3)) := (Rolls.refl _ _ _).alloc (Nat.le_refl _) _
    go_wp2_with fail
    refine Calls.mono (spec_one_any b (m1 + 1 + 1) _ _ _ [-1, 0, 11, x.at_ + 1] _ _ _ hD4a (by omega) hlit (by omega) (by simp) (by simp)) ?_
    rintro e w5 ⟨s, hs, rfl, hR5, hD5, hz5⟩
    have hs' := one_at hs rfl
    have hR45 : Rolls w4.heap.size b w4 w5 := hRa.trans (hR5.mono (by simp))
    have hs5 := hR45.size
    clear hz5
    have hk5 : ∀ q, w1.heap.size ≤ q → q < w4.heap.size → w5.heap[q]? = w4.heap[q]? := fun q h1 h2 => hR45.block q h2 (by omega)
    have hown5 := ownsRow_same (w' := w5) hown4 (fun q hq => hk5 q (hbd4 q (List.mem_append_left _ hq)).1 (hbd4 q (List.mem_append_left _ hq)).2)
    have ho5 := Owns.same _ _ _ ho4 (w' := w5) (fun q hq => hk5 q (hbd4 q (List.mem_append_right _ hq)).1 (hbd4 q (List.mem_append_right _ hq)).2)
    have d05 : w5.cell? ⟨g, k * 3, none⟩ = some (.int .i64 x.at_) := (World.cell?_of_block (hk5 g hglt.1 hglt.2)).trans d0
    have f05 := hown5.frozenAt (k * 3)
    have hst := hown5.stored (k * 3) (.int .i64 s)
    have hset := flatMap_set_one cHunks_len (y' := { x with at_ := s }) (j := 0) (p := .int .i64 s) d k x hxk (by omega) rfl
    rw [Nat.add_zero] at hset
    have ho6 := Owns.same _ _ _ ho5 (w' := w5.setCell ⟨g, k * 3, none⟩ (.int .i64 s)) (fun q hq => Below.heap_setCell _ _ _ _ (fun e => hgG (by rw [← show q = g from e]; exact hq)))
    have hrep := Rep.row_set (lo := w.heap.size) (hi := w5.heap.size) (e := 42) (p' := .int .i64 s) hst.1 ho6 (fun q hq => by have := hbd4 q (List.mem_append_right _ hq); omega) (fun g' hg' => by simp [Value.ownBlock] at hg'; omega) (.int _ _) (by omega)
    rw [hset] at hrep
    have Hrep := Lib.hid hrep
    have hRf := (hRw4.trans (hR45.mono (by omega))).setCell (p := ⟨g, k * 3, none⟩) (by show w.heap.size ≤ g; omega) (.int .i64 s)
    have hDf := hD5.setCell (p := ⟨g, k * 3, none⟩) (by show b < g; omega) (.int .i64 s)
    have hsm := small_set (k := k) (y := { x with at_ := s }) hd8 hdk ⟨by rcases hs' with h | h | h | h <;> (show -1 ≤ s; omega), by rcases hs' with h | h | h | h <;> (show s ≤ 11; omega), by show x.less.length ≤ 11; omega, x4, x5, x6⟩
    clear hrep hset ho6 hst ho5 hown5 hlit hs hs'
    go_wp2
    go_ret
    exact ⟨_, _, _, _, m1 + 1 + 1 + 1, rfl, Hrep.out.mono (Nat.le_refl _) (by simp), hsm, hRf, hDf, by omega⟩
  by_cases hq1 : q2 = 1
  · subst hq1
    have d1a : ∀ o, (w4.alloc o).cell? ⟨g, k * 3 + 1, none⟩ = some (.slice B1 x.less.length e1) := fun o => (World.cell?_of_block (Below.heap_alloc w4 o g hglt.2)).trans d1
    have hSl := Text.src (r1.keep ((Below.refl w4.heap.size w4).alloc (Nat.le_refl _) (.cells #[] 9)) (Nat.le_refl _))
    go_wp2_with (at_builtin; refine wpList_append_src _ rfl (.tmp 40) (.tmp 45) _ rfl w4.heap.size 9 is _ 1 16 Try.underlying35 si0 si1 si2 si3 rfl (by omega) _ 0 _ rfl (World.ownsRow_made w4 #[] 0 (Nat.le_refl _) (Nat.zero_le _) rfl) _ x.less.length e1 _ rfl hSl ?e2 ?e3 ?e4 ?e5 ?_)
    case e2 => exact texts_one _
    case e3 => unfold maxLen; omega
    case e4 => omega
    case e5 => simp
    intro A5 c5 w5 hown5 hg5 hat5
    have hb5 : Below w4.heap.size w4 w5 := ((Below.refl _ _).alloc (Nat.le_refl _) _).grown hg5 (by simp) (fun g hg => by simp [Value.ownBlock] at hg; omega)
    have hs5 := hb5.size
    clear hat5 hg5
    go_wp2_with (at_builtin; refine wpList_append_src _ rfl (.tmp 46) (.tmp 47) _ rfl w4.heap.size 9 is _ 1 16 Try.underlying35 si0 si1 si2 si3 rfl (by omega) _ x.less.length _ rfl (hown5.alloc _) _ 1 1 [.string ⟨#[122, 122]⟩] rfl (Src.lit w5 9 [.string ⟨#[122, 122]⟩] 1 1 rfl) ?e2 ?e3 ?e4 ?e5 ?_)
    case e2 => first | rfl | (intro u hu; simp at hu; subst hu; rfl)
    case e3 => unfold maxLen; omega
    case e4 => omega
    case e5 => simp; omega
    intro A6 c6 w6 hown6 hg6 hat6
    have hb6 : Below w4.heap.size w4 w6 := (hb5.alloc hs5 _).grown hg6 (by simp; omega) (fun g hg => (hown5.lt g hg).1)
    have hs6 := hb6.size
    have e6 : (x.less.map fun (s : Str) => (.string ⟨s.toArray⟩ : Value)) ++ [.string ⟨#[122, 122]⟩] = (x.less ++ [[122, 122]]).map fun (s : Str) => (.string ⟨s.toArray⟩ : Value) := by simp
    rw [e6] at hown6
    have hF6 := Fresh.of_row hown6 (owns_strs w6 (x.less ++ [[122, 122]]))
    have hown4' := ownsRow_same (w' := w6) hown4 (fun q hq => hb6.block q (hbd4 q (List.mem_append_left _ hq)).2)
    have ho4' := Owns.same _ _ _ ho4 (w' := w6) (fun q hq => hb6.block q (hbd4 q (List.mem_append_right _ hq)).2)
    have d16 : w6.cell? ⟨g, k * 3 + 1, none⟩ = some (.slice B1 x.less.length e1) := (World.cell?_of_block (hb6.block g hglt.2)).trans d1
    have f16 := hown4'.frozenAt (k * 3 + 1)
    have hst := hown4'.stored (k * 3 + 1) (.slice A6 (x.less.length + 1) c6)
    have hset := flatMap_set_one cHunks_len (y' := { x with less := x.less ++ [[122, 122]] }) (j := 1) (p := encText (x.less ++ [[122, 122]])) d k x hxk (by omega) rfl
    have ho6 := Owns.same _ _ _ ho4' (w' := w6.setCell ⟨g, k * 3 + 1, none⟩ (.slice A6 (x.less.length + 1) c6)) (fun q hq => Below.heap_setCell _ _ _ _ (fun e => hgG (by rw [← show q = g from e]; exact hq)))
    have hFt := (hF6.same ((Same.refl _ _ _).setCell (p := ⟨g, k * 3 + 1, none⟩) (.inl (by exact hglt.2)) (.slice A6 (x.less.length + 1) c6))).rep
    have hrep := Rep.row_set (lo := w.heap.size) (hi := w6.heap.size) (e := 42) (p' := encText (x.less ++ [[122, 122]])) hst.1 ho6 (fun q hq => by have := hbd4 q (List.mem_append_right _ hq); omega) (fun g' hg' => by simp [Value.ownBlock] at hg'; omega) (hFt.mono (by omega) (Nat.le_refl _)) (by omega)
    rw [hset] at hrep
    have Hrep := Lib.hid hrep
    have hRf := (hRw4.trans (Rolls.of_below (hb6.mono (by omega)))).setCell (p := ⟨g, k * 3 + 1, none⟩) (by show w.heap.size ≤ g; omega) (.slice A6 (x.less.length + 1) c6)
    have hDf := (hD4.keep hb6 (by omega)).setCell (p := ⟨g, k * 3 + 1, none⟩) (by show b < g; omega) (.slice A6 (x.less.length + 1) c6)
    have hsm := small_set (k := k) (y := { x with less := x.less ++ [[122, 122]] }) hd8 hdk ⟨x1, by show x.at_ ≤ 11; omega, by simp; omega, x4, fun s hs => by
      rcases List.mem_append.1 hs with hs | hs
      · exact x5 s hs
      · simp at hs; subst hs; simp, x6⟩
    clear hrep hset ho6 hst hown4' ho4' hown5 hown6 hFt hF6 hSl hg6 hat6 e6
    go_wp2
    go_ret
    exact ⟨_, _, _, _, m1 + 1 + 1, rfl, Hrep.out.mono (Nat.le_refl _) (by simp), hsm, hRf, hDf, by omega⟩
  by_cases hq2 : q2 = 2
  · subst hq2
    have u0 := (hown4.cellAt (k * 3) (by omega)).symm.trans d0
    have u1 := (hown4.cellAt (k * 3 + 1) (by omega)).symm.trans d1
    have u2 := (hown4.cellAt (k * 3 + 2) (by omega)).symm.trans d2
    go_wp2_with (at_builtin; refine wpList_append_src _ rfl (.tmp 53) (.tmp 58) _ rfl w1.heap.size 42 ih _ 3 56 Try.underlying23 gi0 gi1 gi2 gi3 rfl (by omega) _ d.length us rfl (hown4.alloc _) _ 1 1 [.int .i64 x.at_, .slice B1 x.less.length e1, .slice B2 x.more.length e2] rfl (Src.lit w4 42 [.int .i64 x.at_, .slice B1 x.less.length e1, .slice B2 x.more.length e2] 3 1 rfl) ?e2 ?e3 ?e4 ?e5 ?_)
    case e2 => intro u hu; simp at hu; rcases hu with rfl | rfl | rfl <;> rfl
    case e3 => unfold maxLen; omega
    case e4 => omega
    case e5 => simp; omega
    intro A7 c7 w7 hown7 hg7 hat7
    have hb7 : Below w1.heap.size w4 w7 := ((Below.refl _ _).alloc (by omega) _).grown hg7 (by simp; omega) (fun g' hg' => (hown4.lt g' hg').1)
    have hs7 := hb7.size
    have ho7 := Owns.same _ _ _ ho4 (w' := w7) (fun q hq => (hg7.block q (by have := (hbd4 q (List.mem_append_right _ hq)).2; simp; omega) (fun e => hgG (by simp [Value.ownBlock] at e; rw [← e]; exact hq))).trans (Below.heap_alloc w4 _ q (hbd4 q (List.mem_append_right _ hq)).2))
    have hsubs : ∀ j p, (d.flatMap cHunks)[j]? = some p → Rep w7 w.heap.size w7.heap.size p (us.getD j undef) := Owns.rep _ us G ho7 (fun q hq => by have := hbd4 q (List.mem_append_right _ hq); omega)
    have hkl : (d.flatMap cHunks)[k * 3 + 1]? = some (encText x.less) := by rw [flatMap_at cHunks_len d k 1 (by omega), hxk]; rfl
    have hkm : (d.flatMap cHunks)[k * 3 + 2]? = some (encText x.more) := by rw [flatMap_at cHunks_len d k 2 (by omega), hxk]; rfl
    have s1 := hsubs _ _ hkl
    have s2 := hsubs _ _ hkm
    rw [List.getD_eq_getElem?_getD, u1] at s1
    rw [List.getD_eq_getElem?_getD, u2] at s2
    have hrep : Rep w7 w.heap.size w7.heap.size (.sl 42 3 (d.flatMap cHunks ++ cHunks x)) (.slice A7 (d.length + 1) c7) := Rep.row hown7 (by simp [hulen, cHunks]) (fun g' hg' => by have := hown7.lt g' hg'; omega) (fun j p hj => by
      by_cases hju : j < us.length
      · rw [List.getElem?_append_left (by omega)] at hj
        rw [List.getD_eq_getElem?_getD, List.getElem?_append_left hju, ← List.getD_eq_getElem?_getD]
        exact hsubs j p hj
      · rw [List.getElem?_append_right (by omega)] at hj
        rw [List.getD_eq_getElem?_getD, List.getElem?_append_right (by omega), hulen]
        have hj3 := (List.getElem?_eq_some_iff.1 hj).1
        rcases hi : j - (d.flatMap cHunks).length with _ | _ | _ | i
        · rw [hi] at hj; simp [cHunks] at hj; subst hj; simp; exact .int _ _
        · rw [hi] at hj; simp [cHunks] at hj; subst hj; simpa using s1
        · rw [hi] at hj; simp [cHunks] at hj; subst hj; simpa using s2
        · have := cHunks_len x; omega)
    rw [show d.flatMap cHunks ++ cHunks x = (d ++ [x]).flatMap cHunks by simp] at hrep
    have Hrep := Lib.hid hrep
    have hRf := hRw4.trans (Rolls.of_below (hb7.mono hww1))
    have hDf := hD4.keep hb7 hb1w
    have hsm : smallHunks (d ++ [x]) := by
      have := small_all hd8 hdk
      refine ⟨by simp; omega, fun z hz => ?_⟩
      rcases List.mem_append.1 hz with hz | hz
      · exact this.2 z hz
      · simp at hz; subst hz; exact this.2 z (List.mem_of_getElem? hxk)
    clear hrep hsubs s1 s2 ho7 hown7 hg7 hat7 hkl hkm u0 u1 u2
    go_wp2
    go_ret
    exact ⟨_, _, _, _, m1 + 1 + 1, rfl, Hrep.out, hsm, hRf, hDf, by omega⟩
  · have g0 : (q2 == 0) = false := by simp [hq0]
    have g1 : (q2 == 1) = false := by simp [hq1]
    have g2 : (q2 == 2) = false := by simp [hq2]
    have hfin := hfr.rep.mono (lo' := w.heap.size) hww1 (Nat.le_refl _)
    have Hfin := Lib.hid hfin
    have hsm := small_all hd8 hdk
    clear hfin hfr hq0 hq1 hq2
    go_wp2
    go_ret
    exact ⟨d, _, _, _, m1 + 1 + 1, rfl, Hfin.out, hsm, hRw4, hD4, by omega⟩

def eightT : List Str := [[49], [50], [51], [52], [53], [54], [55], [56]]
theorem lit_eight (w : World) : Rep (w.alloc (.cells #[.string ⟨#[49]⟩, .string ⟨#[50]⟩, .string ⟨#[51]⟩, .string ⟨#[52]⟩, .string ⟨#[53]⟩, .string ⟨#[54]⟩, .string ⟨#[55]⟩, .string ⟨#[56]⟩] 9)) w.heap.size (w.heap.size + 1) (encText eightT) (.slice (some ⟨w.heap.size, 0, none⟩) 8 8) :=
  lit_text w 9 eightT (by unfold maxLen eightT; simp)
theorem eight_small : ∀ s ∈ eightT, s.length ≤ 20 := by decide

set_option maxRecDepth 100000 in
set_option maxHeartbeats 800000 in
theorem spec_DrawPatchFree_any (A : Option Addr) (n c : Nat) (bs : List UInt8) (w : World) (lo hi : Nat) (h : Rep w lo hi (encBytes bs) (.slice A n c)) (hh : hi ≤ w.heap.size) :
    Calls Try.prog 8 #[.slice A n c] w fun e w' => ∃ (a d : List PHunk) (A1 A2 : Option Addr) (n1 c1 n2 c2 : Nat), e = .returned (.tuple #[.slice A1 n1 c1, .slice A2 n2 c2]) ∧ Below w.heap.size w w' ∧ Rep w' w.heap.size w'.heap.size (encHunks a) (.slice A1 n1 c1) ∧ Rep w' w.heap.size w'.heap.size (encHunks d) (.slice A2 n2 c2) ∧ smallHunks a ∧ smallHunks d := by
  go_enter Try.func8, Try.ntmps8
  go_wp2_with fail
  refine Calls.mono (spec_l30Open_any A n c bs w lo hi h hh) ?_
  rintro e w1 ⟨rfl, hb1, hd1⟩
  have hs1 := hb1.size
  have hlt := hd1.lt
  have hR0 : Rolls w1.heap.size w.heap.size w1 (w1.alloc (.cells #[.string ⟨#[49]⟩, .string ⟨#[50]⟩, .string ⟨#[51]⟩, .string ⟨#[52]⟩, .string ⟨#[53]⟩, .string ⟨#[54]⟩, .string ⟨#[55]⟩, .string ⟨#[56]⟩] 9)) := (Rolls.refl _ _ _).alloc (Nat.le_refl _) _
  have hT := lit_eight w1
  have hD := hd1.alloc (.cells #[.string ⟨#[49]⟩, .string ⟨#[50]⟩, .string ⟨#[51]⟩, .string ⟨#[52]⟩, .string ⟨#[53]⟩, .string ⟨#[54]⟩, .string ⟨#[55]⟩, .string ⟨#[56]⟩] 9)
  go_wp2_with fail
  refine Calls.mono (spec_l30Patch_any w.heap.size 0 _ _ _ eightT _ _ _ hD (by omega) hT hlt (by simp) eight_small (by decide)) ?_
  rintro e w2 ⟨a, A1, n1, c1, m2, rfl, hRa, hsa, hR2, hD2, hm2⟩
  have hsz : (w1.alloc (.cells #[.string ⟨#[49]⟩, .string ⟨#[50]⟩, .string ⟨#[51]⟩, .string ⟨#[52]⟩, .string ⟨#[53]⟩, .string ⟨#[54]⟩, .string ⟨#[55]⟩, .string ⟨#[56]⟩] 9)).heap.size = w1.heap.size + 1 := by simp
  have hs2 := hR2.size
  have hT2 := hT.same (hR2.same (by rw [hsz]; exact Nat.le_refl _) (.inl hlt))
  have hRw2 : Rolls w1.heap.size w.heap.size w1 w2 := hR0.trans (hR2.mono (by omega))
  clear hT hD hR0
  go_wp2_with fail
  refine Calls.mono (spec_l30Patch_any w.heap.size m2 _ _ _ eightT w2 _ _ hD2 (by omega) hT2 hlt (by omega) eight_small (by decide)) ?_
  rintro e w3 ⟨d, A2, n2, c2, m3, rfl, hRd, hsd, hR3, hD3, hm3⟩
  have hs3 := hR3.size
  have hRa3 := hRa.same (hR3.same (Nat.le_refl _) (.inl (by omega)))
  have hbw : Below w.heap.size w w3 := hb1.trans ((hRw2.trans (hR3.mono (by omega))).below (Nat.le_refl _) hs1)
  have Ha := Lib.hid (hRa3.mono (lo' := w.heap.size) (hi' := w3.heap.size) (by omega) hs3)
  have Hd := Lib.hid (hRd.mono (lo' := w.heap.size) (by omega) (Nat.le_refl _))
  clear hRa hRd hRa3 hT2
  go_wp2
  go_ret2
  exact ⟨a, d, _, _, _, _, _, _, rfl, hbw, Ha.out, Hd.out, hsa, hsd⟩

set_option maxHeartbeats 400000 in
theorem spec_DrawPatchShift_any (A : Option Addr) (n c : Nat) (bs : List UInt8) (w : World) (lo hi : Nat) (h : Rep w lo hi (encBytes bs) (.slice A n c)) (hh : hi ≤ w.heap.size) :
    Calls Try.prog 25 #[.slice A n c] w fun e w' => ∃ (a d : List PHunk) (A1 A2 : Option Addr) (n1 c1 n2 c2 : Nat), e = .returned (.tuple #[.slice A1 n1 c1, .slice A2 n2 c2]) ∧ Below w.heap.size w w' ∧ Rep w' w.heap.size w'.heap.size (encHunks a) (.slice A1 n1 c1) ∧ Rep w' w.heap.size w'.heap.size (encHunks d) (.slice A2 n2 c2) ∧ smallHunks a ∧ smallHunks d := by
  go_enter Try.func25, Try.ntmps25
  go_wp2_with fail
  refine Calls.mono (spec_DrawPatchFree_any A n c bs w lo hi h hh) ?_
  rintro e w1 ⟨a, d, A1, A2, n1, c1, n2, c2, rfl, hp⟩
  go_wp2
  go_ret2
  exact ⟨a, d, _, _, _, _, _, _, rfl, hp⟩

set_option maxRecDepth 100000 in
set_option maxHeartbeats 800000 in
theorem spec_DrawPatchDo_any (A : Option Addr) (n c : Nat) (bs : List UInt8) (w : World) (lo hi : Nat) (h : Rep w lo hi (encBytes bs) (.slice A n c)) (hh : hi ≤ w.heap.size) :
    Calls Try.prog 19 #[.slice A n c] w fun e w' => ∃ (xs : List Str) (d : List PHunk) (A1 A2 : Option Addr) (n1 c1 n2 c2 : Nat), e = .returned (.tuple #[.slice A1 n1 c1, .slice A2 n2 c2]) ∧ Below w.heap.size w w' ∧ Rep w' w.heap.size w'.heap.size (encText xs) (.slice A1 n1 c1) ∧ Rep w' w.heap.size w'.heap.size (encHunks d) (.slice A2 n2 c2) ∧ (∀ s ∈ xs, s.length ≤ 20) ∧ smallHunks d := by
  go_enter Try.func19, Try.ntmps19
  go_wp2_with fail
  refine Calls.mono (spec_l30Open_any A n c bs w lo hi h hh) ?_
  rintro e w1 ⟨rfl, hb1, hd1⟩
  have hs1 := hb1.size
  have hlt := hd1.lt
  go_wp2_with fail
  refine Calls.mono (spec_l30AnyText_any w.heap.size 0 w1 hd1 (by omega)) ?_
  rintro e w2 ⟨xs, v, m2, rfl, hM2, hl2, hR2, hD2, hm2⟩
  obtain ⟨A3, c3, rfl, hc3, _, _⟩ := hM2.shape
  have hs2 := hR2.size
  have hx2 := hM2.fresh.rep
  have hxs := hM2.2
  clear hM2
  go_wp2_with fail
  refine Calls.mono (spec_l30Patch_any w.heap.size m2 A3 xs.length c3 xs w2 _ _ hD2 (by omega) hx2 hlt (Nat.le_refl _) hxs (by omega)) ?_
  rintro e w3 ⟨d, A4, n4, c4, m3, rfl, hRd, hsd, hR3, hD3, hm3⟩
  have hs3 := hR3.size
  have hx3 := hx2.same (hR3.same (Nat.le_refl _) (.inl hlt))
  have hRw3 : Rolls w1.heap.size w.heap.size w1 w3 := hR2.trans (hR3.mono hs2)
  clear hx2
  go_wp2_with fail
  refine Calls.mono (spec_pick_any w.heap.size m3 6 w3 hD3 (by omega)) ?_
  rintro e w4 ⟨q, rfl, q0, q1, hR4, hD4, hz4⟩
  have hRw4 : Rolls w1.heap.size w.heap.size w1 w4 := hRw3.trans (hR4.mono (by omega))
  have hx4 := hx3.same (hR4.same (by omega) (.inl hlt))
  have hd4 := hRd.same (hR4.same (Nat.le_refl _) (.inl (by omega)))
  clear hx3 hRd
  by_cases hq : q = 0
  · subst hq
    go_wp2_with fail
    refine Calls.mono (spec_l30Turn_any w.heap.size (m3 + 1) A3 xs.length c3 xs w4 _ _ hD4 (by omega) hx4 (by omega) hxs (by omega)) ?_
    rintro e w5 ⟨ys, u, m5, rfl, hM5, hl5, hR5, hD5, hm5⟩
    obtain ⟨A5, c5, rfl, hc5, _, _⟩ := hM5.shape
    have hs5 := hR5.size
    have hbw : Below w.heap.size w w5 := hb1.trans ((hRw4.trans (hR5.mono (by omega))).below (Nat.le_refl _) hs1)
    have Hy := Lib.hid (hM5.fresh.rep.mono (lo' := w.heap.size) (by omega) (Nat.le_refl _))
    have Hd := Lib.hid ((hd4.same (hR5.same (by omega) (.inl (by omega)))).mono (lo' := w.heap.size) (hi' := w5.heap.size) (by omega) (by omega))
    have hys := hM5.2
    clear hx4 hd4 hM5
    go_wp2
    go_ret2
    exact ⟨ys, d, _, _, _, _, _, _, rfl, hbw, Hy.out, Hd.out, hys, hsd⟩
  · have hbw : Below w.heap.size w w4 := hb1.trans (hRw4.below (Nat.le_refl _) hs1)
    have Hy := Lib.hid (hx4.mono (lo' := w.heap.size) (hi' := w4.heap.size) (by omega) (by omega))
    have Hd := Lib.hid (hd4.mono (lo' := w.heap.size) (hi' := w4.heap.size) (by omega) (by omega))
    clear hx4 hd4
    go_wp2
    go_ret2
    exact ⟨xs, d, _, _, _, _, _, _, rfl, hbw, Hy.out, Hd.out, hxs, hsd⟩
end Go.Proofs.Ythjjocimpkjldaa
