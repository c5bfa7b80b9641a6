/- An argument that can be read as data, opened: it reads as plain data (Rep), for strings, integers, bools, slices and structs of these. And the row's last step where of the world only 'Below' is known. Over any program. -/
import Derived.Test.YteofafgleojmhaaDoorData
import Derived.ProofKit
import Derived.OpenShut
import Derived.Deep.Slices
import Derived.Deep.Fields
import Derived.Carry
namespace Go.Proofs.YteofafgleojmhaaDoor
open Go.RowKit Go.WideShapes Go.ChangeShapes Go.Deep

section
variable {H : Type} {enc : TypeId × Value → H} {P : Program} {w : World} {spare : Nat → Bool} {held : Bool}
def Dec (enc : TypeId × Value → H) (P : Program) (w : World) (spare : Nat → Bool) (held : Bool) {α : Type} (t : TypeId) (z : Nat) (f : α → List PV) (ok : α → Prop) : Prop :=
  ∀ (fuel : Nat) (cs : List Value) (x : DataW H × List MemPlace), DataW.trod enc P w 0 spare held fuel t cs = some x → ∃ a, ok a ∧ cs.length = z ∧ ∀ (j : Nat) (p : PV), (f a)[j]? = some p → ∃ u : Value, cs[j]? = some u ∧ Rep w 0 w.heap.size p u

theorem dec_str {t : TypeId} (ht : P.underlying t = some .string) : Dec enc P w spare held t 1 cText (fun s => s.length ≤ 9223372036854775807) := by
  intro fuel cs x h
  obtain ⟨s, rfl, _, hs⟩ := DataW.trod_string ht h
  have e : s.data.toList.length = s.size := Array.length_toList
  have hb : s.data.toList.length ≤ 9223372036854775807 := by unfold maxLen at hs; omega
  refine ⟨s.data.toList, hb, rfl, fun j p hj => ?_⟩
  cases j with
  | zero => simp only [cText, List.getElem?_cons_zero, Option.some.injEq] at hj; subst hj; exact ⟨_, rfl, .str s.data.toList⟩
  | succ j => simp [cText] at hj
theorem dec_int {t : TypeId} (ht : P.underlying t = some (.int .i64)) : Dec enc P w spare held t 1 cInts (fun n => -9223372036854775808 ≤ n ∧ n ≤ 9223372036854775807) := by
  intro fuel cs x h
  obtain ⟨n, rfl, _, hn⟩ := DataW.trod_int ht h
  have e : IntKind.i64.min = -9223372036854775808 := by decide
  refine ⟨n, by simp [Lit.wf, e] at hn; exact hn, rfl, fun j p hj => ?_⟩
  cases j with
  | zero => simp only [cInts, List.getElem?_cons_zero, Option.some.injEq] at hj; subst hj; exact ⟨_, rfl, .int _ n⟩
  | succ j => simp [cInts] at hj
theorem dec_bool {t : TypeId} (ht : P.underlying t = some .bool) : Dec enc P w spare held t 1 (fun b => [PV.bool b]) (fun _ => True) := by
  intro fuel cs x h
  obtain ⟨b, rfl, _⟩ := DataW.trod_bool ht h
  refine ⟨b, trivial, rfl, fun j p hj => ?_⟩
  cases j with
  | zero => simp only [List.getElem?_cons_zero, Option.some.injEq] at hj; subst hj; exact ⟨_, rfl, .bool b⟩
  | succ j => simp at hj
theorem choose_list {α : Type} {q : Nat → α → Prop} : ∀ n : Nat, (∀ i, i < n → ∃ a, q i a) → ∃ xs : List α, xs.length = n ∧ ∀ i a, xs[i]? = some a → q i a
  | 0, _ => ⟨[], rfl, fun i a h => by simp at h⟩
  | n + 1, h => by
    obtain ⟨xs, hl, hx⟩ := choose_list n (fun i hi => h i (by omega))
    obtain ⟨a, ha⟩ := h n (by omega)
    refine ⟨xs ++ [a], by simp [hl], fun i b hb => ?_⟩
    by_cases hi : i < n
    · rw [List.getElem?_append_left (by omega)] at hb; exact hx i b hb
    · rw [List.getElem?_append_right (by omega)] at hb
      have : i - xs.length = 0 := by
        have := (List.getElem?_eq_some_iff.1 hb).1
        simp at this; omega
      rw [this] at hb
      simp at hb
      subst hb
      have : i = n := by omega
      rw [this]; exact ha
theorem addr_lit {w : World} {a : Addr} {u : Value} (h : w.cell? a = some u) : a = ⟨a.block, a.off, none⟩ := by
  obtain ⟨b, o, s⟩ := a
  cases s with
  | none => rfl
  | some s =>
    unfold World.cell? at h
    split at h <;> simp at h
theorem dec_slice {α : Type} {t e e' : TypeId} {z : Nat} {f : α → List PV} {ok : α → Prop} (hf : ∀ x, (f x).length = z) (hz : 0 < z) (ht : P.underlying t = some (.slice e)) (hC : P.cellsOf e = z)
    (hd : Dec enc P w spare held e z f ok) : Dec enc P w spare held t 1 (fun xs : List α => [PV.sl e' z (xs.flatMap f)]) (fun xs => ∀ a ∈ xs, ok a) := by
  intro fuel cs x h
  rcases open_slice ht h with ⟨rfl, _⟩ | ⟨a, len, cap, m, n, D, Pl, rfl, _, hl, hm, hmm, _, hi⟩
  · refine ⟨[], by simp, rfl, fun j p hj => ?_⟩
    cases j with
    | zero => simp only [List.flatMap_nil, List.getElem?_cons_zero, Option.some.injEq] at hj; subst hj; exact ⟨_, rfl, Rep.of_nil _ _ _ _ _⟩
    | succ j => simp at hj
  · have hlm : len ≤ m := by rw [hmm]; split <;> omega
    obtain ⟨xs, hxl, hx⟩ := choose_list (q := fun i a' => ok a' ∧ ∀ (j : Nat) (p : PV), (f a')[j]? = some p → ∃ u : Value, w.cell? ((a.add (i * z)).add j) = some u ∧ Rep w 0 w.heap.size p u) len (fun i hil => by
      obtain ⟨cs', hc, ht'⟩ := hi i (by omega)
      obtain ⟨a', hok, _, hp⟩ := hd _ _ _ ht'
      obtain ⟨_, hcl, hat⟩ := World.cells?_some hc
      refine ⟨a', hok, fun j p hj => ?_⟩
      obtain ⟨u, hu, hr⟩ := hp j p hj
      have hjz : j < z := by
        have := (List.getElem?_eq_some_iff.1 hj).1
        rwa [hf] at this
      rw [hC] at hat
      exact ⟨u, (hat j hjz).trans hu, hr⟩)
    refine ⟨xs, fun a' ha' => ?_, rfl, fun j p hj => ?_⟩
    · obtain ⟨i, hi'⟩ := List.getElem?_of_mem ha'
      exact (hx i a' hi').1
    cases j with
    | succ j => simp at hj
    | zero =>
      simp only [List.getElem?_cons_zero, Option.some.injEq] at hj
      subst hj
      refine ⟨_, rfl, ?_⟩
      have hlen : (xs.flatMap f).length = len * z := by rw [length_flatMap_z hf, hxl]
      have hcell : ∀ j p, (xs.flatMap f)[j]? = some p → ∃ u, w.cell? (a.add j) = some u ∧ Rep w 0 w.heap.size p u := by
        intro j p hj
        have hlt := (List.getElem?_eq_some_iff.1 hj).1
        have hk : j / z < len := by rw [hlen] at hlt; exact Nat.div_lt_of_lt_mul (by rw [Nat.mul_comm]; exact hlt)
        have hr : j % z < z := Nat.mod_lt _ hz
        have hjd : j = j / z * z + j % z := by rw [Nat.mul_comm]; exact (Nat.div_add_mod j z).symm
        have h1 := flatMap_at hf xs (j / z) (j % z) hr
        rw [← hjd, hj] at h1
        have hxk : xs[j / z]? = some (xs[j / z]'(by omega)) := List.getElem?_eq_getElem (by omega)
        rw [hxk, Option.bind_some] at h1
        obtain ⟨u, hu, hr'⟩ := (hx _ _ hxk).2 (j % z) p h1.symm
        rw [Go.Deep.add_add, ← hjd] at hu
        exact ⟨u, hu, hr'⟩
      by_cases hn : 0 < len
      · have h0 : ∃ p, (xs.flatMap f)[0]? = some p := ⟨_, List.getElem?_eq_getElem (by rw [hlen]; exact Nat.mul_pos hn hz)⟩
        obtain ⟨p0, hp0⟩ := h0
        obtain ⟨u0, hu0, _⟩ := hcell 0 p0 hp0
        have ha : a = ⟨a.block, a.off, none⟩ := addr_lit (w := w) (u := u0) (by simpa [Addr.add] using hu0)
        have hblt : a.block < w.heap.size := World.block_lt_of_cell? w _ hu0
        refine .sl (fun j => ((w.cell? (a.add j)).getD undef)) hlen hl hm (fun h => by cases h) (fun _ => ⟨a.block, a.off, by rw [← ha], Nat.zero_le _, hblt, fun j hj => ?_⟩) (fun j p hj => ?_)
        · obtain ⟨u, hu, _⟩ := hcell j _ (List.getElem?_eq_getElem hj)
          have e1 : a.add j = ⟨a.block, a.off + j, none⟩ := by rw [ha]; simp [Addr.add_lit]
          rw [← e1, hu]; rfl
        · obtain ⟨u, hu, hr⟩ := hcell j p hj
          rw [hu]; exact hr
      · have h0 : xs.flatMap f = [] := List.eq_nil_of_length_eq_zero (by rw [hlen, show len = 0 by omega]; simp)
        refine .sl (fun _ => undef) hlen hl hm (fun h => by cases h) (fun h => absurd h hn) (fun j p hj => by rw [h0] at hj; simp at hj)

theorem two_cells {cs : Array Value} {u0 u1 : Value} (h : cs.size = 2) (h0 : cs[0]? = some u0) (h1 : cs[1]? = some u1) : cs = #[u0, u1] := by
  obtain ⟨l⟩ := cs
  match l, h with
  | [a, b], _ =>
    simp at h0 h1
    rw [h0, h1]
theorem trodAll_stays (hl : laidOutB P = true) {W W' : World} {sp' : Nat → Bool} : ∀ {ts : List TypeId} {vs : List Value} {ds : List (DataW H)} {ps : List MemPlace}, (∀ t ∈ ts, P.readableRec t = true ∧ t < P.types.size) →
    DataW.TrodAll enc P W 0 (fun _ => true) true ts vs ds ps → (∀ p ∈ ps, W.sameAt W' p) → (∀ p ∈ ps, sp' p.block = true) → DataW.TrodAll enc P W' 0 sp' true ts vs ds ps
  | [], vs, ds, ps, _, h, _, _ => by
    obtain ⟨rfl, rfl, rfl⟩ := trodAll_nil h
    exact trodAll_mk0
  | t :: ts, vs, ds, ps, hr, h, h1, h2 => by
    obtain ⟨v, vs', d, ds', p, q, rfl, rfl, rfl, hd, hrest⟩ := trodAll_cons h
    exact trodAll_cons_mk (WideElems.Trod_stays hl (hr t (by simp)).1 (hr t (by simp)).2 hd (fun x hx => h1 x (List.mem_append_left _ hx)) (fun x hx => h2 x (List.mem_append_left _ hx)))
      (trodAll_stays hl (fun t' ht' => hr t' (by simp [ht'])) hrest (fun x hx => h1 x (List.mem_append_right _ hx)) (fun x hx => h2 x (List.mem_append_right _ hx)))

theorem post_of_below {f : Func} {s : ChangeSpec} {apart fresh handsOn again : Bool} {W W' : World} {args : Array Value} {v : Value} {ds gs : List (DataW H)} {before pa pv : List MemPlace}
    (hW : DataW.Whole enc P f.params.toList s.vars apart W args.toList ds gs before)
    (hres : ∀ (b : Nat) (sp : Nat → Bool) (hd : Bool), DataW.TrodAll enc P W' b sp hd f.resultTypes.toList (v.resultList f.resultTypes.size) (s.fn H (ds ++ gs)).results [])
    (hargs : ∀ sp : Nat → Bool, (∀ p ∈ before, sp p.block = true) → DataW.TrodAll enc P W' 0 sp true f.params.toList args.toList (s.fn H (ds ++ gs)).args pa)
    (hvars : ∀ sp : Nat → Bool, (∀ p ∈ before, sp p.block = true) → DataW.TrodVars enc P W' sp s.vars (s.fn H (ds ++ gs)).vars pv)
    (hps : before = pa ++ pv) (hb : Below W.heap.size W W')
    (hok : ∀ (j : Nat) (t : TypeId) (r : Value), f.resultTypes[j]? = some t → (v.resultList f.resultTypes.size)[j]? = some r → Value.okWide P W' .any 0 t r) :
    s.post enc P f apart fresh handsOn again W args v W' := by
  have hlt : ∀ p ∈ before, p.block < W.heap.size := fun p hp => hW.lt p hp
  have hold : ∀ p ∈ before, (fun b => decide (b < W.heap.size)) p.block = true := fun p hp => by simpa using hlt p hp
  refine ⟨ds, gs, before, [], pa, pv, hW, hres _ _ _, hargs _ hold, hvars _ hold, World.keptBut_mono (fun p hp => ⟨hp, ?_⟩) (hb.frame (· ∈ before)), fun _ => ?_⟩
  · rw [hps, List.mem_append] at hp
    exact Or.inr hp
  · obtain ⟨_, _, _, _, _, hz, hn⟩ := hW
    refine ⟨hok, _, _, ([] ++ pa) ++ pv, ⟨[] ++ pa, pv, trodAll_append (hargs _ (fun _ _ => rfl)) (hres _ _ _), hvars _ (fun _ _ => rfl), rfl, ?_, ?_⟩, ?_⟩
    · intro b off hp
      have hin : MemPlace.cell b off ∈ before := by rw [hps]; simpa using hp
      rw [hb.frozen (hlt _ hin)]
      exact hz b off hin
    · intro ha
      have := hn ha
      rw [hps] at this
      simpa using this
    · intro p hp _
      rw [hps]
      simpa using hp

/-- A law's end: it returned true, and of the world 'Below' is known. -/
theorem law_post {f : Func} {s : ChangeSpec} {bt : TypeId} {W W' : World} {args : Array Value} {ds : List (DataW H)} {before : List MemPlace} (hl : laidOutB P = true)
    (hbt : P.underlying bt = some .bool) (hrt : f.resultTypes = #[bt]) (hv : s.vars = []) (hfn : s.fn H ds = { results := [.lit (.bool true)], args := ds })
    (hrd : ∀ t ∈ f.params.toList, P.readableRec t = true ∧ t < P.types.size)
    (hA : DataW.TrodAll enc P W 0 (fun _ => true) true f.params.toList args.toList ds before)
    (hW : DataW.Whole enc P f.params.toList s.vars false W args.toList ds [] before) (hb : Below W.heap.size W W') : s.post enc P f false true false false W args (.bool true) W' := by
  have hlt : ∀ p ∈ before, p.block < W.heap.size := fun p hp => hW.lt p hp
  have e1 : s.fn H (ds ++ []) = { results := [.lit (.bool true)], args := ds } := by rw [List.append_nil]; exact hfn
  refine post_of_below (pa := before) (pv := []) hW (fun b sp hd => ?_) (fun sp hsp => ?_) (fun sp hsp => ?_) (by simp) hb ?_
  · rw [e1, hrt]
    exact trodAll_cons_mk (shut_bool hbt _) trodAll_mk0
  · rw [e1]
    exact trodAll_stays hl hrd hA (fun p hp => hb.same (hlt p hp)) hsp
  · rw [e1, hv]
    rfl
  · exact ok_one hrt rfl (okWide_bool_mk hbt _)
end
end Go.Proofs.YteofafgleojmhaaDoor
