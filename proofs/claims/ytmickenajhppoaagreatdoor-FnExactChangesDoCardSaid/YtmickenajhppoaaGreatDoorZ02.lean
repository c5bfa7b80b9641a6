/- Several of my texts in one: Text, Range, Str, Ints. -/
import Derived.Test.YtmickenajhppoaaGreatDoorRows
import Derived.Test.YtmickenajhppoaaGreatDoorZ01
/- Walks: strings and texts: sz, to, eq of []string; lineOk, TextOk and the reference's. -/
namespace Go.Proofs.YtmickenajhppoaaGreatDoor
open Go.RowKit
def Small (xs : List Str) : Prop := ∀ s ∈ xs, s.length ≤ 1048576
def total (xs : List Str) : Nat := xs.length + (xs.map List.length).sum
theorem le_sum_of_mem : ∀ {l : List Nat} {a : Nat}, a ∈ l → a ≤ l.sum
  | b :: l, a, h => by
    rcases List.mem_cons.1 h with rfl | h
    · simp
    · have := le_sum_of_mem h
      simp; omega
theorem small_of_total {xs : List Str} (h : total xs ≤ 1048576) : xs.length ≤ 1048576 ∧ ∀ s ∈ xs, s.length ≤ 1048576 := by
  unfold total at h
  refine ⟨by omega, fun s hs => ?_⟩
  have : s.length ≤ (xs.map List.length).sum := le_sum_of_mem (List.mem_map_of_mem hs)
  omega


set_option maxHeartbeats 400000 in
theorem eqStringS_any (A1 A2 : Option Addr) (n1 c1 n2 c2 : Nat) (xs ys : List Str) (w : World) (lo hi lo' hi' : Nat) (h1 : Rep w lo hi (encText xs) (.slice A1 n1 c1)) (h2 : Rep w lo' hi' (encText ys) (.slice A2 n2 c2)) :
    Calls Tryz.prog 62 #[.slice A1 n1 c1, .slice A2 n2 c2] w fun e w' => e = .returned (.bool (decide (xs = ys))) ∧ ∃ k, w' = w.drewN k := by
  have hl1 := Text.n h1
  have hl2 := Text.n h2
  obtain ⟨hc1, hm1⟩ := Text.cap h1
  subst hl1 hl2
  by_cases hn : xs.length = ys.length
  · have hn' : ((xs.length : Int) != (ys.length : Int)) = false := by simp [hn]
    have Hn := Lib.hid hn
    clear hn
    go_enter Tryz.func62, Tryz.ntmps62
    go_wp2
    go_loopw [5] (fun i wr => ∃ k : Nat, k ≤ xs.length ∧ i = .int .i64 k ∧ Hid (xs.take k = ys.take k) ∧ ∃ m, wr = w.drewN m) (fun i _ => xs.length - (intOf i).toNat)
    case atStart => exact ⟨0, Nat.zero_le _, rfl, Lib.hid (by simp), 0, rfl⟩
    case round =>
      obtain ⟨k, hk, rfl, ht, m, rfl⟩ := hrel
      by_cases hlt : k < xs.length
      · obtain ⟨b1, o1, s1, rfl, _, _, hs1, hcell1⟩ := Text.at h1 hlt
        obtain ⟨b2, o2, s2, rfl, _, _, hs2, hcell2⟩ := Text.at h2 (k := k) (by have := Hn.out; omega)
        have hlt' : (k : Int) < (xs.length : Int) := by omega
        have hlt2 : (k : Int) < (ys.length : Int) := by have := Hn.out; omega
        have hkey : xs.take (k + 1) = ys.take (k + 1) ↔ s1 = s2 := by
          rw [List.take_add_one, List.take_add_one, hs1, hs2, ht.out]; simp
        have Hk := Lib.hid hkey
        have H1 := Lib.hid hs1
        have H2 := Lib.hid hs2
        clear hs1 hs2 hkey
        by_cases he : s1 = s2
        · subst he
          go_wp2
          go_quiet (fail)
          go_wp2
          go_roundw
          case rel => exact ⟨k + 1, by omega, by go_num, Lib.hid (Hk.out.2 (by simp)), m + nq, by simp⟩
          case measure => simp [intOf]; omega
        · have hb : (s1 == s2) = false := by simp [he]
          go_wp2
          go_quiet (fail)
          go_wp2
          go_ret
          refine ⟨?_, m + nq, by simp⟩
          have : xs ≠ ys := fun e => he (Hk.out.1 (by rw [e]))
          simp [this]
      · go_wp2
        go_ret
        refine ⟨?_, m, rfl⟩
        have : xs = ys := by
          have ht := ht.out
          have hn := Hn.out
          rwa [List.take_of_length_le (by omega), List.take_of_length_le (by omega)] at ht
        simp [this]
  · have hn' : ((xs.length : Int) != (ys.length : Int)) = true := by simp; omega
    go_enter Tryz.func62, Tryz.ntmps62
    go_wp2
    go_ret
    refine ⟨?_, 0, rfl⟩
    have : xs ≠ ys := fun e => hn (by rw [e])
    simp [this]

set_option maxHeartbeats 400000 in
theorem szStringS_any (A : Option Addr) (n c : Nat) (xs : List Str) (w : World) (lo hi : Nat) (left : Int) (h : Rep w lo hi (encText xs) (.slice A n c)) (hs : ∀ s ∈ xs, s.length ≤ 9223372036854775807) (h0 : 0 ≤ left) (h1 : left ≤ 1048576) :
    Calls Tryz.prog 38 #[.slice A n c, .int .i64 left] w fun e w' => (∃ r : Int, e = .returned (.int .i64 r) ∧ -1 ≤ r ∧ r ≤ left ∧ (0 ≤ r → (total xs : Int) ≤ left - r)) ∧ w = w' := by
  have hl := Text.n h
  obtain ⟨hc, hm⟩ := Text.cap h
  subst hl
  by_cases hlt : left - (xs.length : Int) < 0
  · go_enter Tryz.func38, Tryz.ntmps38
    go_wp2
    go_ret
    exact ⟨⟨-1, rfl, by omega, by omega, by omega⟩, rfl⟩
  · go_enter Tryz.func38, Tryz.ntmps38
    go_wp2
    go_loop [1, 5] (fun l i => ∃ k : Nat, ∃ r : Int, k ≤ xs.length ∧ i = .int .i64 k ∧ l = .int .i64 r ∧ 0 ≤ r ∧ r ≤ left ∧ Hid ((xs.length + ((xs.take k).map List.length).sum : Int) = left - r)) (fun _ i => xs.length - (intOf i).toNat)
    case atStart => exact ⟨0, _, Nat.zero_le _, rfl, rfl, by omega, by omega, Lib.hid (by simp; omega)⟩
    case round =>
      obtain ⟨k, r, hk, rfl, rfl, hr0, hr1, ht⟩ := hrel
      by_cases hkn : k < xs.length
      · obtain ⟨b1, o1, s1, rfl, _, _, hs1, hcell1⟩ := Text.at h hkn
        have hkn' : (k : Int) < (xs.length : Int) := by omega
        have hsl : s1.length ≤ 9223372036854775807 := hs s1 (List.mem_of_getElem? hs1)
        have hsum : ((xs.take (k + 1)).map List.length).sum = ((xs.take k).map List.length).sum + s1.length := by
          rw [List.take_add_one, hs1]; simp
        have H1 := Lib.hid hsum
        clear hsum hs1 hs
        by_cases hneg : r - (s1.length : Int) < 0
        · go_wp2
          go_ret
          exact ⟨⟨-1, rfl, by omega, by omega, by omega⟩, rfl⟩
        · go_wp2
          go_round
          case rel => exact ⟨k + 1, r - s1.length, by omega, by go_num, rfl, by omega, by omega, Lib.hid (by have := H1.out; have := ht.out; omega)⟩
          case measure => simp [intOf]; omega
      · go_wp2
        go_ret
        refine ⟨⟨r, rfl, by omega, by omega, fun _ => ?_⟩, rfl⟩
        have ht := ht.out
        rw [List.take_of_length_le (by omega)] at ht
        unfold total
        omega

theorem Tryz.infoStr : (Tryz.prog.info? 9).map (fun i => (i.zero, i.size, i.bytes)) = some (some (.string ⟨#[]⟩), 1, 16) := by kernel_rfl
theorem Fresh.of_row {w : World} {base e z n : Nat} {v : Value} {us : List Value} {ps : List PV} (h : w.ownsRow base e z v n us) (ho : Owns w ps us []) : Fresh w base w.heap.size (.sl e z ps) v := by
  refine ⟨v.ownBlock.toList, ⟨n, us, [], ⟨h.1, ?_⟩, by simp, ho⟩, ?_, fun k hk => ?_⟩
  · rcases h.2 with h2 | ⟨g, cap, cur, r⟩
    · exact .inl h2
    · exact .inr ⟨g, cap, cur, r.1, Nat.zero_le _, r.2.2⟩
  · cases v.ownBlock <;> simp
  · exact h.lt k (by simpa using hk)
theorem owns_strs (w : World) : ∀ xs : List Str, Owns w (xs.flatMap cText) (xs.map fun s => .string ⟨s.toArray⟩) []
  | [] => ⟨rfl, rfl⟩
  | _ :: xs => ⟨_, _, [], [], rfl, rfl, ⟨rfl, rfl⟩, owns_strs w xs⟩

set_option maxHeartbeats 400000 in
theorem toStringS_any (A : Option Addr) (n c : Nat) (xs : List Str) (w : World) (lo hi : Nat) (h : Rep w lo hi (encText xs) (.slice A n c)) (hh : hi ≤ w.heap.size) (hn : xs.length ≤ 1048576) :
    Calls Tryz.prog 49 #[.slice A n c] w fun e w' => ∃ A' n' c', e = .returned (.slice A' n' c') ∧ Below w.heap.size w w' ∧ Fresh w' w.heap.size w'.heap.size (encText xs) (.slice A' n' c') := by
  have hl := Text.n h
  obtain ⟨hc, hm⟩ := Text.cap h
  subst hl
  obtain ⟨i, hi0, hi1, hi2, hi3⟩ := info_parts Tryz.infoStr
  go_enter Tryz.func49, Tryz.ntmps49
  go_wp2_with (at_make; refine wpList_make_full _ rfl _ _ _ rfl w.heap.size 9 i _ 1 Tryz.underlying38 hi0 hi1 hi2 _ _ _ _ xs.length rfl rfl rfl rfl ?c1 ?c2 ?c3 ?_)
  case c1 => rw [hi3]; omega
  case c2 => unfold maxLen; omega
  case c3 => exact Nat.le_refl _
  intro w1 hown hg
  have hb1 : Below w.heap.size w w1 := (Below.refl _ _).grown hg (Nat.le_refl _) (by simp)
  go_wp2
  go_loopw [4] (fun i wr => ∃ k : Nat, ∃ us : List Value, k ≤ xs.length ∧ i = .int .i64 k ∧ wr.ownsRow w.heap.size 9 1 (.slice (some ⟨w.heap.size, 0, none⟩) xs.length xs.length) xs.length us ∧
      Hid (us.take k = (xs.take k).map fun s => .string ⟨s.toArray⟩) ∧ Below w.heap.size w wr ∧ w.heap.size < wr.heap.size) (fun i _ => xs.length - (intOf i).toNat)
  case atStart => exact ⟨0, _, Nat.zero_le _, rfl, hown, Lib.hid (by simp), hb1, (hown.lt _ rfl).2⟩
  case round =>
    obtain ⟨k, us, hk, rfl, hown, ht, hb, hsz⟩ := hrel
    by_cases hkn : k < xs.length
    · obtain ⟨b1, o1, s1, rfl, _, _, hs1, hcell1⟩ := Text.at (h.keep hb hh) hkn
      have hkn' : (k : Int) < (xs.length : Int) := by omega
      have hul := hown.1
      obtain ⟨u0, hu0⟩ : ∃ u0, us[k]? = some u0 := ⟨us[k]'(by omega), List.getElem?_eq_getElem (by omega)⟩
      have hcell := hown.cellAt k (by omega)
      rw [hu0] at hcell
      have hfr := hown.frozenAt k
      have hnew := hown.stored k (.string ⟨s1.toArray⟩)
      have hstep : (us.set k (.string ⟨s1.toArray⟩)).take (k + 1) = (xs.take (k + 1)).map fun s => .string ⟨s.toArray⟩ := by
        have ht := ht.out
        rw [List.take_add_one, List.take_add_one, hs1, List.take_set_of_le (by omega), ht, List.getElem?_set_self (by omega)]
        simp
      have H1 := Lib.hid hstep
      clear hstep hs1 hu0 hul
      go_wp2
      go_roundw
      case rel => exact ⟨k + 1, _, by omega, by go_num, hnew.1, H1, hb.setCell (Nat.le_refl _) _, by simpa using hsz⟩
      case measure => simp [intOf]; omega
    · go_wp2
      go_ret
      refine ⟨_, _, _, rfl, hb, ?_⟩
      have ht := ht.out
      have hul := hown.1
      rw [List.take_of_length_le (by omega), List.take_of_length_le (by omega)] at ht
      subst ht
      exact Fresh.of_row hown (owns_strs _ xs)

def byteOk (b : UInt8) : Bool := decide (32 ≤ b.toNat) && decide (b.toNat ≤ 126)
def lineOk (s : Str) : Bool := decide (s.length ≤ 12) && s.all byteOk
def textOk (t : List Str) : Bool := decide (t.length ≤ 10) && t.all lineOk
theorem textOk_len {a : List Str} (h : textOk a = true) : a.length ≤ 10 := by
  simp [textOk] at h; exact h.1


theorem byte_at {s : Str} {k : Nat} {c : UInt8} (h : s[k]? = some c) (hk : k < (⟨s.toArray⟩ : ByteArray).size) : (⟨s.toArray⟩ : ByteArray)[k] = c := by
  have h2 := (List.getElem?_eq_some_iff.1 h).2
  simpa [ByteArray.getElem_eq_getElem_data] using h2
theorem size_mk (s : Str) : (⟨s.toArray⟩ : ByteArray).size = s.length := by simp [ByteArray.size]
theorem all_take_succ {α : Type} {p : α → Bool} {xs : List α} {k : Nat} {c : α} (hc : xs[k]? = some c) (h : (xs.take k).all p = true) (hp : p c = true) : (xs.take (k + 1)).all p = true := by
  rw [List.take_add_one, hc, List.all_append, h]; simp [hp]
theorem all_false {α : Type} {p : α → Bool} {xs : List α} {k : Nat} {c : α} (hc : xs[k]? = some c) (hp : p c = false) : xs.all p = false := by
  have hm : c ∈ xs := List.mem_of_getElem? hc
  cases h : xs.all p with
  | false => rfl
  | true => rw [List.all_eq_true] at h; rw [h c hm] at hp; cases hp
theorem ret_bool {a b : Bool} (h : a = b) : Ending.returned (.bool a) = .returned (.bool b) := by rw [h]
theorem ret_int {k : IntKind} {a b : Int} (h : a = b) : Ending.returned (.int k a) = .returned (.int k b) := by rw [h]

set_option maxHeartbeats 400000 in
theorem impl_lineOk_any (s : Str) (w : World) :
    Calls Tryz.prog 71 #[.string ⟨s.toArray⟩] w fun e w' => e = .returned (.bool (lineOk s)) ∧ w = w' := by
  by_cases h12 : s.length ≤ 12
  · go_enter Tryz.func71, Tryz.ntmps71
    go_wp2
    go_loop [3] (fun i => ∃ k : Nat, k ≤ s.length ∧ i = .int .i64 k ∧ Hid ((s.take k).all byteOk = true)) (fun i => s.length - (intOf i).toNat)
    case atStart => exact ⟨0, Nat.zero_le _, rfl, Lib.hid (by simp)⟩
    case round =>
      obtain ⟨k, hk, rfl, ht⟩ := hrel
      by_cases hkn : k < s.length
      · have hkn' : (k : Int) < (s.length : Int) := by omega
        obtain ⟨c, hc⟩ : ∃ c, s[k]? = some c := ⟨_, List.getElem?_eq_getElem hkn⟩
        have hb := byte_at hc (by rw [size_mk]; exact hkn)
        have Hc := Lib.hid hc
        clear hc
        by_cases h1 : 32 ≤ c.toNat
        · by_cases h2 : c.toNat ≤ 126
          · have h2' : ¬ (126 : Int) < (c.toNat : Int) := by omega
            go_wp2
            go_round
            case rel => exact ⟨k + 1, by omega, by go_num, Lib.hid (all_take_succ Hc.out ht.out (by simp [byteOk, h1, h2]))⟩
            case measure => simp [intOf]; omega
          · have h2' : (126 : Int) < (c.toNat : Int) := by omega
            go_wp2
            go_ret
            exact ⟨ret_bool (by unfold lineOk; rw [all_false Hc.out (by simp [byteOk, h2])]; simp), rfl⟩
        · have h1' : (c.toNat : Int) < 32 := by omega
          go_wp2
          go_ret
          exact ⟨ret_bool (by unfold lineOk; rw [all_false Hc.out (by simp [byteOk, h1])]; simp), rfl⟩
      · go_wp2
        go_ret
        have ht := ht.out
        rw [List.take_of_length_le (by omega)] at ht
        exact ⟨ret_bool (by simp [lineOk, ht, h12]), rfl⟩
  · go_enter Tryz.func71, Tryz.ntmps71
    go_wp2
    go_ret
    exact ⟨ret_bool (by simp [lineOk]; omega), rfl⟩

set_option maxHeartbeats 400000 in
theorem spec_l1Line_any (s : Str) (w : World) (hs : s.length ≤ 9223372036854775807) :
    Calls Tryz.prog 67 #[.string ⟨s.toArray⟩] w fun e w' => e = .returned (.bool (lineOk s)) ∧ w = w' := by
  go_enter Tryz.func67, Tryz.ntmps67
  go_wp2
  go_loop [3] (fun i => ∃ k : Nat, k ≤ s.length ∧ i = .int .i64 k ∧ Hid ((s.take k).all byteOk = true)) (fun i => s.length - (intOf i).toNat)
  case atStart => exact ⟨0, Nat.zero_le _, rfl, Lib.hid (by simp)⟩
  case round =>
    obtain ⟨k, hk, rfl, ht⟩ := hrel
    by_cases hkn : k < s.length
    · have hkn' : (k : Int) < (s.length : Int) := by omega
      obtain ⟨c, hc⟩ : ∃ c, s[k]? = some c := ⟨_, List.getElem?_eq_getElem hkn⟩
      have hb := byte_at hc (by rw [size_mk]; exact hkn)
      have Hc := Lib.hid hc
      clear hc
      by_cases h1 : 32 ≤ c.toNat
      · by_cases h2 : c.toNat ≤ 126
        · have h2' : ¬ (126 : Int) < (c.toNat : Int) := by omega
          go_wp2
          go_round
          case rel => exact ⟨k + 1, by omega, by go_num, Lib.hid (all_take_succ Hc.out ht.out (by simp [byteOk, h1, h2]))⟩
          case measure => simp [intOf]; omega
        · have h2' : (126 : Int) < (c.toNat : Int) := by omega
          go_wp2
          go_ret
          exact ⟨ret_bool (by unfold lineOk; rw [all_false Hc.out (by simp [byteOk, h2])]; simp), rfl⟩
      · have h1' : (c.toNat : Int) < 32 := by omega
        go_wp2
        go_ret
        exact ⟨ret_bool (by unfold lineOk; rw [all_false Hc.out (by simp [byteOk, h1])]; simp), rfl⟩
    · have ht := ht.out
      rw [List.take_of_length_le (by omega)] at ht
      by_cases h12 : s.length ≤ 12
      all_goals
        go_wp2
        go_ret
        exact ⟨ret_bool (by simp [lineOk, ht]; omega), rfl⟩

set_option maxHeartbeats 400000 in
theorem impl_TextOk_any (A : Option Addr) (n c : Nat) (xs : List Str) (w : World) (lo hi : Nat) (h : Rep w lo hi (encText xs) (.slice A n c)) :
    Calls Tryz.prog 51 #[.slice A n c] w fun e w' => e = .returned (.bool (textOk xs)) ∧ w = w' := by
  have hl := Text.n h
  obtain ⟨hc, hm⟩ := Text.cap h
  subst hl
  by_cases h10 : xs.length ≤ 10
  · go_enter Tryz.func51, Tryz.ntmps51
    go_wp2
    go_loop [10] (fun i => ∃ k : Nat, k ≤ xs.length ∧ i = .int .i64 k ∧ Hid ((xs.take k).all lineOk = true)) (fun i => xs.length - (intOf i).toNat)
    case atStart => exact ⟨0, Nat.zero_le _, rfl, Lib.hid (by simp)⟩
    case round =>
      obtain ⟨k, hk, rfl, ht⟩ := hrel
      by_cases hkn : k < xs.length
      · have hkn' : (k : Int) < (xs.length : Int) := by omega
        obtain ⟨b1, o1, s1, rfl, _, _, hs1, hcell1⟩ := Text.at h hkn
        have Hc := Lib.hid hs1
        clear hs1
        cases hok : lineOk s1
        · go_wp2_with (go_at_call 71; refine (impl_lineOk_any _ _).mono ?_; rintro e w' ⟨rfl, rfl⟩)
          go_ret
          exact ⟨ret_bool (by unfold textOk; rw [all_false Hc.out hok]; simp), rfl⟩
        · go_wp2_with (go_at_call 71; refine (impl_lineOk_any _ _).mono ?_; rintro e w' ⟨rfl, rfl⟩)
          go_round
          case rel => exact ⟨k + 1, by omega, by go_num, Lib.hid (all_take_succ Hc.out ht.out hok)⟩
          case measure => simp [intOf]; omega
      · go_wp2
        go_ret
        have ht := ht.out
        rw [List.take_of_length_le (by omega)] at ht
        exact ⟨ret_bool (by simp [textOk, ht, h10]), rfl⟩
  · go_enter Tryz.func51, Tryz.ntmps51
    go_wp2
    go_ret
    exact ⟨ret_bool (by simp [textOk]; omega), rfl⟩

set_option maxHeartbeats 400000 in
theorem spec_l1Ok_any (A : Option Addr) (n c : Nat) (xs : List Str) (w : World) (lo hi : Nat) (h : Rep w lo hi (encText xs) (.slice A n c)) (hs : ∀ s ∈ xs, s.length ≤ 9223372036854775807) :
    Calls Tryz.prog 41 #[.slice A n c] w fun e w' => e = .returned (.bool (textOk xs)) ∧ w = w' := by
  have hl := Text.n h
  obtain ⟨hc, hm⟩ := Text.cap h
  subst hl
  go_enter Tryz.func41, Tryz.ntmps41
  go_wp2
  go_loop [3] (fun i => ∃ k : Nat, k ≤ xs.length ∧ i = .int .i64 k ∧ Hid ((xs.take k).all lineOk = true)) (fun i => xs.length - (intOf i).toNat)
  case atStart => exact ⟨0, Nat.zero_le _, rfl, Lib.hid (by simp)⟩
  case round =>
    obtain ⟨k, hk, rfl, ht⟩ := hrel
    by_cases hkn : k < xs.length
    · have hkn' : (k : Int) < (xs.length : Int) := by omega
      obtain ⟨b1, o1, s1, rfl, _, _, hs1, hcell1⟩ := Text.at h hkn
      have hsl := hs s1 (List.mem_of_getElem? hs1)
      have Hc := Lib.hid hs1
      clear hs1
      cases hok : lineOk s1
      · go_wp2_with (go_at_call 67; refine (spec_l1Line_any _ _ hsl).mono ?_; rintro e w' ⟨rfl, rfl⟩)
        go_ret
        exact ⟨ret_bool (by unfold textOk; rw [all_false Hc.out hok]; simp), rfl⟩
      · go_wp2_with (go_at_call 67; refine (spec_l1Line_any _ _ hsl).mono ?_; rintro e w' ⟨rfl, rfl⟩)
        go_round
        case rel => exact ⟨k + 1, by omega, by go_num, Lib.hid (all_take_succ Hc.out ht.out hok)⟩
        case measure => simp [intOf]; omega
    · have ht := ht.out
      rw [List.take_of_length_le (by omega)] at ht
      by_cases h10 : xs.length ≤ 10
      all_goals
        go_wp2
        go_ret
        exact ⟨ret_bool (by simp [textOk, ht]; omega), rfl⟩

end Go.Proofs.YtmickenajhppoaaGreatDoor

/- Walks: is a number in a range: the program's within, the reference's l1In. -/
namespace Go.Proofs.YtmickenajhppoaaGreatDoor
open Go.RowKit
def inRange (n lo hi : Int) : Bool := decide (lo ≤ n) && decide (n ≤ hi)

set_option maxHeartbeats 400000 in
theorem impl_within_any (n a b : Int) (w : World) :
    Calls Tryz.prog 76 #[.int .i64 n, .int .i64 a, .int .i64 b] w fun e w' => e = .returned (.bool (inRange n a b)) ∧ w = w' := by
  by_cases h1 : a ≤ n
  · by_cases h2 : n ≤ b
    · go_enter Tryz.func76, Tryz.ntmps76
      go_wp2
      go_ret
      exact ⟨ret_bool (by simp [inRange, h1, h2]), rfl⟩
    · go_enter Tryz.func76, Tryz.ntmps76
      go_wp2
      go_ret
      exact ⟨ret_bool (by simp [inRange, h1, h2]), rfl⟩
  · go_enter Tryz.func76, Tryz.ntmps76
    go_wp2
    go_ret
    exact ⟨ret_bool (by simp [inRange]; omega), rfl⟩

set_option maxHeartbeats 400000 in
theorem spec_l1In_any (n a b : Int) (w : World) :
    Calls Tryz.prog 80 #[.int .i64 n, .int .i64 a, .int .i64 b] w fun e w' => e = .returned (.bool (inRange n a b)) ∧ w = w' := by
  by_cases h1 : a ≤ n
  · by_cases h2 : n ≤ b
    · go_enter Tryz.func80, Tryz.ntmps80
      go_wp2
      go_ret
      exact ⟨ret_bool (by simp [inRange, h1, h2]), rfl⟩
    · go_enter Tryz.func80, Tryz.ntmps80
      go_wp2
      go_ret
      exact ⟨ret_bool (by simp [inRange, h1, h2]), rfl⟩
  · go_enter Tryz.func80, Tryz.ntmps80
    go_wp2
    go_ret
    exact ⟨ret_bool (by simp [inRange]; omega), rfl⟩

end Go.Proofs.YtmickenajhppoaaGreatDoor

/- A string cut: its run, the result said as a list of bytes. -/
namespace Go.Proofs.YtmickenajhppoaaGreatDoor
open Go.RowKit
theorem Tryz.cutStr (s : Str) (i j : Nat) (hij : i ≤ j) (hj : j ≤ s.length) :
    (∀ W, (Instr.slice 9 (.string ⟨s.toArray⟩) (some (.int .i64 i)) (some (.int .i64 j)) none).run Tryz.prog W = .ok (.string ⟨((s.drop i).take (j - i)).toArray⟩) W) ∧
    (∀ W, (Instr.sliceAt 9 (.string ⟨s.toArray⟩) (some (.int .i64 i)) (some (.int .i64 j)) none).run Tryz.prog W = .ok (.string ⟨((s.drop i).take (j - i)).toArray⟩) W) := by
  have ht : Tryz.prog.underlying 9 = some .string := by kernel_rfl
  have h : ∀ W, (Instr.slice 9 (.string ⟨s.toArray⟩) (some (.int .i64 i)) (some (.int .i64 j)) none).run Tryz.prog W = .ok (.string ⟨((s.drop i).take (j - i)).toArray⟩) W := fun W => by
    rw [run_slice_string _ _ _ _ _ _ _ ht (by omega) (by omega) (by rw [size_mk]; omega), ByteArray.extract_mk]; rfl
  exact ⟨h, fun W => by rw [run_sliceAt_string (h := ht)]; exact h W⟩
theorem Tryz.cutStrTo (s : Str) (j : Nat) (hj : j ≤ s.length) :
    (∀ W, (Instr.slice 9 (.string ⟨s.toArray⟩) none (some (.int .i64 j)) none).run Tryz.prog W = .ok (.string ⟨(s.take j).toArray⟩) W) ∧
    (∀ W, (Instr.sliceAt 9 (.string ⟨s.toArray⟩) none (some (.int .i64 j)) none).run Tryz.prog W = .ok (.string ⟨(s.take j).toArray⟩) W) := by
  have ht : Tryz.prog.underlying 9 = some .string := by kernel_rfl
  have h : ∀ W, (Instr.slice 9 (.string ⟨s.toArray⟩) none (some (.int .i64 j)) none).run Tryz.prog W = .ok (.string ⟨(s.take j).toArray⟩) W := fun W => by
    rw [run_slice_string_h (ht := ht) (h0 := by omega) (h2 := by rw [size_mk]; omega), ByteArray.extract_mk]; simp
  exact ⟨h, fun W => by rw [run_sliceAt_string (h := ht)]; exact h W⟩
theorem Tryz.cutStrFrom (s : Str) (i : Nat) (hi : i ≤ s.length) :
    (∀ W, (Instr.slice 9 (.string ⟨s.toArray⟩) (some (.int .i64 i)) none none).run Tryz.prog W = .ok (.string ⟨(s.drop i).toArray⟩) W) ∧
    (∀ W, (Instr.sliceAt 9 (.string ⟨s.toArray⟩) (some (.int .i64 i)) none none).run Tryz.prog W = .ok (.string ⟨(s.drop i).toArray⟩) W) := by
  have ht : Tryz.prog.underlying 9 = some .string := by kernel_rfl
  have h : ∀ W, (Instr.slice 9 (.string ⟨s.toArray⟩) (some (.int .i64 i)) none none).run Tryz.prog W = .ok (.string ⟨(s.drop i).toArray⟩) W := fun W => by
    rw [run_slice_string_l (ht := ht) (h0 := by omega) (h1 := by rw [size_mk]; omega), ByteArray.extract_mk, size_mk]
    rw [List.take_of_length_le (by rw [List.length_drop]; simp)]; rfl
  exact ⟨h, fun W => by rw [run_sliceAt_string (h := ht)]; exact h W⟩
theorem bytes_app (a b : Str) : (⟨a.toArray⟩ : ByteArray) ++ ⟨b.toArray⟩ = ⟨(a ++ b).toArray⟩ := by
  apply ByteArray.ext
  simp [ByteArray.data_append]
end Go.Proofs.YtmickenajhppoaaGreatDoor

/- Walks: sz, to, eq of []int. -/
namespace Go.Proofs.YtmickenajhppoaaGreatDoor
open Go.RowKit



end Go.Proofs.YtmickenajhppoaaGreatDoor
